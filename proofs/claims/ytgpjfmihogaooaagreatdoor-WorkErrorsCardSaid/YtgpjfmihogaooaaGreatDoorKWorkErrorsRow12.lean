/- Of this claim's texts what it needs, part 12. -/
import Derived.Test.YtgpjfmihogaooaaGreatDoorKWorkErrorsRow11
namespace Go.Proofs.YtgpjfmihogaooaaGreatDoorV
open Go
set_option maxRecDepth 100000
set_option linter.unusedVariables false
set_option linter.unusedSimpArgs false
noncomputable section
def Zzp {R:Type} (i1 i2 i3 i4 p5 p6 p7 p8 p9 a:Rs)(b d e f g i j l o q:Int)(t u:Rs)(k:Rs→Rs→Rs→ByteArray→Option R):Option R :=
 cond (e ==(8:Int)) (
  Option.bind (Zwh i1 i2 i3 i4 p5 p6 p7 p8 p9 a b d e f g i j l o q) fun v =>
  k v.1 v.2.1 v.2.2.1 v.2.2.2) (
  cond (e ==(9:Int)) (
   Option.bind (Z1c p5 p6 p7 p8 p9 a b d t) fun z =>
   k z.1 z.2.1 z.2.2.1 z.2.2.2) (
   cond (e ==(10:Int)) (
    Option.bind (Z1c p5 p6 p7 p8 p9 a b d u) fun A =>
    k A.1 A.2.1 A.2.2.1 A.2.2.2) (
    cond (e ==(11:Int)) (
     Option.bind (Z0b i1 i2 i3 i4 g) fun B =>
     cond (!B) (
      Option.bind (Z5d 5) fun C =>
      k [] [] [] C) (
      Option.bind (idx p5 g) fun D =>
      if D.length=1 then
       Option.bind (D[0]?) fun E =>
       Option.bind (PV.asFs E) fun F =>
       Option.bind (Z8b (ByteArray.mk #[114,111,117,116,101]) F) fun G =>
       k [] [] [] G
      else none)) (
     cond (e ==(12:Int)) (
      Option.bind (Zfb p5 p6 p7 p8 p9 a b) fun H =>
      Option.bind (Z8b (ByteArray.mk #[112,111,111,108]) H) fun I =>
      k [] [] [] I) (
      cond (e ==(13:Int)) (
       Option.bind (Z5f i1 i2 i3 i4 p5 p6 p7 p8 p9 a b) fun J =>
       meet (
        Option.bind (Zfb p5 p6 p7 p8 p9 a b) fun K =>
        Option.bind (Z8b (ByteArray.mk #[99,111,115,116]) [[.int .i64 J],[.int .i64 (K.length:Int)]]) fun L =>
        k [] [] [] L) (
        Option.bind (Zfb p5 p6 p7 p8 p9 a b) fun M =>
        (fun (z1:Option R) =>
         meet (
          z1) (
          meet (
           z1) (
           z1))) (
         Option.bind (Z8b (ByteArray.mk #[99,111,115,116]) [[.int .i64 J],[.int .i64 (M.length:Int)]]) fun N =>
         k [] [] [] N))) (
       Option.bind (Z4k i1 i2 i3 i4 p5 p6 p7 p8 p9 a b d e f g i j l o q) fun O =>
       cond (O.2.2.2 !=(0:Int)) (
        Option.bind (Z5d O.2.2.2) fun Q =>
        k [] [] [] Q) (
        Option.bind (Zmb O.1 O.2.1 O.2.2.1) fun U =>
        Option.bind (Zph []) fun V =>
        k U.1 U.2.1 U.2.2 V)))))))
def ZMG (y:Rs × Rs × Rs × ByteArray):PV × Cs:=((PV.tuple [.agg [.fs y.1,.fs y.2.1,.fs y.2.2.1],.str y.2.2.2]),[])
def Zvp (i1 i2 i3 i4 p5 p6 p7 p8 p9 a:Rs)(b d e f g i j l o q:Int)(t u:Rs):Option (Rs × Rs × Rs × ByteArray) :=
 cond (e ==(8:Int)) (
  Option.bind (Zwh i1 i2 i3 i4 p5 p6 p7 p8 p9 a b d e f g i j l o q) fun v =>
  some (v.1,v.2.1,v.2.2.1,v.2.2.2)) (
  cond (e ==(9:Int)) (
   Option.bind (Z1c p5 p6 p7 p8 p9 a b d t) fun z =>
   some (z.1,z.2.1,z.2.2.1,z.2.2.2)) (
   cond (e ==(10:Int)) (
    Option.bind (Z1c p5 p6 p7 p8 p9 a b d u) fun A =>
    some (A.1,A.2.1,A.2.2.1,A.2.2.2)) (
    cond (e ==(11:Int)) (
     Option.bind (Z0b i1 i2 i3 i4 g) fun B =>
     cond (!B) (
      Option.bind (Z5d 5) fun C =>
      some ([],[],[],C)) (
      Option.bind (idx p5 g) fun D =>
      if D.length=1 then
       Option.bind (D[0]?) fun E =>
       Option.bind (PV.asFs E) fun F =>
       Option.bind (Z8b (ByteArray.mk #[114,111,117,116,101]) F) fun G =>
       some ([],[],[],G)
      else none)) (
     cond (e ==(12:Int)) (
      Option.bind (Zfb p5 p6 p7 p8 p9 a b) fun H =>
      Option.bind (Z8b (ByteArray.mk #[112,111,111,108]) H) fun I =>
      some ([],[],[],I)) (
      cond (e ==(13:Int)) (
       Option.bind (Z5f i1 i2 i3 i4 p5 p6 p7 p8 p9 a b) fun J =>
       Option.bind (Zfb p5 p6 p7 p8 p9 a b) fun K =>
       Option.bind (Z8b (ByteArray.mk #[99,111,115,116]) [[.int .i64 J],[.int .i64 (K.length:Int)]]) fun L =>
       some ([],[],[],L)) (
       Option.bind (Z4k i1 i2 i3 i4 p5 p6 p7 p8 p9 a b d e f g i j l o q) fun M =>
       cond (M.2.2.2 !=(0:Int)) (
        Option.bind (Z5d M.2.2.2) fun N =>
        some ([],[],[],N)) (
        Option.bind (Zmb M.1 M.2.1 M.2.2.1) fun O =>
        Option.bind (Zph []) fun Q =>
        some (O.1,O.2.1,O.2.2,Q))))))))
theorem ZNK {R:Type} (i1 i2 i3 i4 p5 p6 p7 p8 p9 a:Rs)(b d e f g i j l o q:Int)(t u:Rs)(k:Rs→Rs→Rs→ByteArray→Option R):Tw (Zvp i1 i2 i3 i4 p5 p6 p7 p8 p9 a b d e f g i j l o q t u) (Zzp  i1 i2 i3 i4 p5 p6 p7 p8 p9 a b d e f g i j l o q t u k) (fun s=>match s with | (a0,a1,a2,a3)=>k a0 a1 a2 a3):=by
 unfold Zvp Zzp
 refine Zha (fun _=>?_) (fun _=>?_)
 ·refine Zaa fun v _=>?_
  exact Zda rfl
 ·refine Zha (fun _=>?_) (fun _=>?_)
  ·refine Zaa fun z _=>?_
   exact Zda rfl
  ·refine Zha (fun _=>?_) (fun _=>?_)
   ·refine Zaa fun A _=>?_
    exact Zda rfl
   ·refine Zha (fun _=>?_) (fun _=>?_)
    ·refine Zaa fun B _=>?_
     refine Zha (fun _=>?_) (fun _=>?_)
     ·refine Zaa fun C _=>?_
      exact Zda rfl
     ·refine Zaa fun D _=>?_
      refine Zqa fun _=>?_
      refine Zaa fun E _=>?_
      refine Zaa fun F _=>?_
      refine Zaa fun G _=>?_
      exact Zda rfl
    ·refine Zha (fun _=>?_) (fun _=>?_)
     ·refine Zaa fun H _=>?_
      refine Zaa fun I _=>?_
      exact Zda rfl
     ·refine Zha (fun _=>?_) (fun _=>?_)
      ·refine Zaa fun J _=>?_
       intro s hs
       obtain ⟨K,L,hs⟩:=Zba hs
       obtain ⟨M,N,hs⟩:=Zba hs
       cases hs
       simp only [L,N,Option.bind_some,cond_true,cond_false,if_true,if_false,ite_true,ite_false,ZGa,and_self,true_and,and_true,eq_self,not_true_eq_false,not_false_eq_true,Bool.false_eq_true,reduceCtorEq]
      ·refine Zaa fun O _=>?_
       refine Zha (fun _=>?_) (fun _=>?_)
       ·refine Zaa fun Q _=>?_
        exact Zda rfl
       ·refine Zaa fun U _=>?_
        refine Zaa fun V _=>?_
        exact Zda rfl
theorem ZTK:∀ (i1 i2 i3 i4 p5 p6 p7 p8 p9 a:Rs)(b d e f g i j l o q:Int)(t u:Rs)(y:Rs × Rs × Rs × ByteArray),Zvp i1 i2 i3 i4 p5 p6 p7 p8 p9 a b d e f g i j l o q t u=some y→∀ (R:Type)(k:Rs→Rs→Rs→ByteArray→Option R),Zzp  i1 i2 i3 i4 p5 p6 p7 p8 p9 a b d e f g i j l o q t u k=k y.1 y.2.1 y.2.2.1 y.2.2.2:=fun i1 i2 i3 i4 p5 p6 p7 p8 p9 a b d e f g i j l o q t u y h=>fun R k=>ZNK i1 i2 i3 i4 p5 p6 p7 p8 p9 a b d e f g i j l o q t u k y h
def Zjd:Cs→Option (Rs × Rs × Rs × ByteArray)
 | [.agg [.fs i1,.fs i2,.fs i3,.fs i4],.agg [.fs p5,.fs p6,.fs p7,.fs p8,.fs p9,.fs a,.int .i64 b],.int .i64 d,.agg [.int .i64 e,.int .i64 f,.int .i64 g,.int .i64 i,.int .i64 j,.int .i64 l,.int .i64 o,.int .i64 q],.rp [.fs t] 0,.rp [.fs u] 0]=>Zvp i1 i2 i3 i4 p5 p6 p7 p8 p9 a b d e f g i j l o q t u
 | _=>none
def Zdz:List (Nat × Cal):=[(38,.ctr ZUw),(39,.ctr Zxs),(40,.ctr ZTe),(41,.ctr Z8r),(42,.ctr Znr),(43,.ctr Zck),(44,.ctr ZWu),(45,.ctr Z0u),(46,.ctr Z0c),(47,.ctr ZTw),(1000000006,ro_I),(1000000007,ro_I),(1000000009,ro_I)]
def ZVt:Ctr:=⟨[none,none,none,none,none,none],Rs × Rs × Rs × ByteArray,Zjd,ZMG,false,.d⟩
theorem ZhL (i1 i2 i3 i4 p5 p6 p7 p8 p9 a:Rs)(b d e f g i j l o q:Int)(t u:Rs) :
  funK T G0 (Zja Zdz) noL .d false [none,none,none,none,none,none] (Zfa Tryz.f10) [.agg [.fs i1,.fs i2,.fs i3,.fs i4],.agg [.fs p5,.fs p6,.fs p7,.fs p8,.fs p9,.fs a,.int .i64 b],.int .i64 d,.agg [.int .i64 e,.int .i64 f,.int .i64 g,.int .i64 i,.int .i64 j,.int .i64 l,.int .i64 o,.int .i64 q],.rp [.fs t] 0,.rp [.fs u] 0]=Zzp  i1 i2 i3 i4 p5 p6 p7 p8 p9 a b d e f g i j l o q t u (fun a0 a1 a2 a3=>some (ZMG (a0,a1,a2,a3))):=by kernel_rfl
theorem ZGK {ps:Cs} {y:Rs × Rs × Rs × ByteArray} (h:Zjd ps=some y):∃ (i1:Rs) (i2:Rs) (i3:Rs) (i4:Rs) (p5:Rs) (p6:Rs) (p7:Rs) (p8:Rs) (p9:Rs) (a:Rs) (b:Int) (d:Int) (e:Int) (f:Int) (g:Int) (i:Int) (j:Int) (l:Int) (o:Int) (q:Int) (t:Rs) (u:Rs),ps=[.agg [.fs i1,.fs i2,.fs i3,.fs i4],.agg [.fs p5,.fs p6,.fs p7,.fs p8,.fs p9,.fs a,.int .i64 b],.int .i64 d,.agg [.int .i64 e,.int .i64 f,.int .i64 g,.int .i64 i,.int .i64 j,.int .i64 l,.int .i64 o,.int .i64 q],.rp [.fs t] 0,.rp [.fs u] 0]:=by
 unfold Zjd at h
 split at h
 ·exact ⟨_,_,_,_,_,_,_,_,_,_,_,_,_,_,_,_,_,_,_,_,_,_,rfl⟩
 ·cases h
theorem ZhI (hΓ:Zga Tryz.prog G0 Zdz) (hok:∀ (i1 i2 i3 i4 p5 p6 p7 p8 p9 a:Rs)(b d e f g i j l o q:Int)(t u:Rs)(y:Rs × Rs × Rs × ByteArray),Zvp i1 i2 i3 i4 p5 p6 p7 p8 p9 a b d e f g i j l o q t u=some y→∀ (R:Type)(k:Rs→Rs→Rs→ByteArray→Option R),Zzp  i1 i2 i3 i4 p5 p6 p7 p8 p9 a b d e f g i j l o q t u k=k y.1 y.2.1 y.2.2.1 y.2.2.2):Zka Tryz.prog G0 10 ZVt:=by
 refine ZIa mixed tOk (Zna hΓ) Tryz.func10 rfl rfl rfl rfl (F:=Zfa Tryz.f10) (fun ps x h=>?_)
 obtain ⟨y,hy,hx⟩:=Zba h
 cases hx
 obtain ⟨i1,i2,i3,i4,p5,p6,p7,p8,p9,a,b,d,e,f,g,i,j,l,o,q,t,u,rfl⟩:=ZGK hy
 refine ⟨noL,ZKa _,(ZhL i1 i2 i3 i4 p5 p6 p7 p8 p9 a b d e f g i j l o q t u).trans (hok i1 i2 i3 i4 p5 p6 p7 p8 p9 a b d e f g i j l o q t u y hy _ _)⟩
def Zbc {R:Type} (v1 n2:Int)(k:Int→Option R):Option R :=
 cond (decide (n2 < (1:Int))) (
  k 0) (
  if n2=0 then none else
  cond (decide ((Int.tmod v1 n2) < (0:Int))) (
   k (IntKind.i64.wrap ((Int.tmod v1 n2) + n2))) (
   k (Int.tmod v1 n2)))
def Z2m (y:Int):PV × Cs:=((PV.int .i64 y),[])
def Zib (v1 n2:Int):Option (Int):=Zbc v1 n2 fun a0=>some a0
def Zlh:Cs→Option (Int)
 | [.int .i64 v1,.int .i64 n2]=>Zib v1 n2
 | _=>none
def Zdn:List (Nat × Cal):=[]
def Z9g:Ctr:=⟨[none,none],Int,Zlh,Z2m,true,.d⟩
theorem Zaw (v1 n2:Int) :
  funK T G0 (Zja Zdn) noL .d true [none,none] (Zfa Tryz.f11) [.int .i64 v1,.int .i64 n2]=Zbc  v1 n2 (fun a0=>some (Z2m a0)):=by kernel_rfl
theorem ZOu {ps:Cs} {y:Int} (h:Zlh ps=some y):∃ (v1:Int) (n2:Int),ps=[.int .i64 v1,.int .i64 n2]:=by
 unfold Zlh at h
 split at h
 ·exact ⟨_,_,rfl⟩
 ·cases h
theorem Zsu {R:Type} (v1 n2:Int)(k:Int→Option R):Zbc v1 n2 k=Option.bind (Zbc v1 n2 fun a0=>some a0) fun y=>k y:=by
 unfold Zbc
 first | rfl | simp only [Option.bind_assoc,Zya,Zxa,Option.bind_some,Option.bind_none]
theorem Zor (hΓ:Zga Tryz.prog G0 Zdn):Zka Tryz.prog G0 11 Z9g:=by
 refine ZIa mixed tOk (Zna hΓ) Tryz.func11 rfl rfl rfl rfl (F:=Zfa Tryz.f11) (fun ps x h=>?_)
 obtain ⟨y,hy,hx⟩:=Zba h
 cases hx
 obtain ⟨v1,n2,rfl⟩:=ZOu hy
 have hy':Zib v1 n2=some y:=hy
 refine ⟨noL,ZKa _,(Zaw v1 n2).trans ?_⟩
 unfold Zib at hy'
 rw [Zsu,hy']
 rfl
def ZIe {R:Type} (a:ByteArray)(b d e:Rs)(k0:Bool→Option R):Option R :=
 cond (ByteArray.toList a == ByteArray.toList (ByteArray.mk #[112,111,111,108])) (
  k0 ((b.length:Int) ==(0:Int))) (
  k0 false)
def Z6k {R:Type} (k:Bool→Option R):Option R :=
 Option.bind (Zub) fun y1 =>
 Option.bind (Zub) fun y2 =>
 (fun (z1 z2 z3:Option R) =>
  meet (
   meet (
    meet (
     z1) (
     meet (
      meet (
       z2) (
       z3)) (
      meet (
       z3) (
       z3)))) (
    meet (
     meet (
      meet (
       z2) (
       z3)) (
      z3)) (
     meet (
      meet (
       z3) (
       z3)) (
      z3)))) (
   meet (
    meet (
     meet (
      z1) (
      meet (
       meet (
        z2) (
        z3)) (
       meet (
        z3) (
        z3)))) (
     meet (
      Option.bind (Z5b [[.int .i64 0,.int .i64 0,.int .i64 5]] [] [] [[.fs [[.int .i64 0]]]]) fun a =>
      (fun (z4:Option R) =>
       meet (
        meet (
         meet (
          z4) (
          z4)) (
         z4)) (
        meet (
         meet (
          meet (
           z4) (
           z4)) (
          z4)) (
         meet (
          z4) (
          z4)))) (
       Option.bind (Zjd [.agg [.fs [[.int .i64 0,.int .i64 0,.int .i64 5]],.fs [],.fs [],.fs [[.fs [[.int .i64 0]]]]],.agg [.fs a.1,.fs a.2.1,.fs a.2.2.1,.fs a.2.2.2.1,.fs a.2.2.2.2.1,.fs a.2.2.2.2.2.1,.int .i64 a.2.2.2.2.2.2],.int .i64 0,.agg [.int .i64 12,.int .i64 0,.int .i64 0,.int .i64 0,.int .i64 (-1),.int .i64 0,.int .i64 0,.int .i64 (-1)],.rp y1 0,.rp y2 0]) fun b =>
       ZIe b.2.2.2 b.1 b.2.1 b.2.2.1 k)) (
      meet (
       meet (
        meet (
         z2) (
         z3)) (
        meet (
         z1) (
         meet (
          z3) (
          z3)))) (
       meet (
        meet (
         z3) (
         z3)) (
        meet (
         z2) (
         meet (
          z3) (
          z3))))))) (
    meet (
     meet (
      meet (
       meet (
        z2) (
        z3)) (
       z3)) (
      meet (
       meet (
        meet (
         z2) (
         z3)) (
        meet (
         z1) (
         meet (
          z3) (
          z3)))) (
       meet (
        z3) (
        meet (
         z3) (
         z3))))) (
     meet (
      meet (
       meet (
        z3) (
        z3)) (
       z3)) (
      meet (
       meet (
        meet (
         z3) (
         z3)) (
        meet (
         z2) (
         meet (
          z3) (
          z3)))) (
       meet (
        z3) (
        meet (
         z3) (
         z3)))))))) (
  Option.bind (Z5b [[.int .i64 0,.int .i64 0,.int .i64 5]] [] [] [[.fs [[.int .i64 0]]]]) fun y3 =>
  (fun (z5:Option R) =>
   meet (
    meet (
     z5) (
     z5)) (
    z5)) (
   Option.bind (Zjd [.agg [.fs [[.int .i64 0,.int .i64 0,.int .i64 5]],.fs [],.fs [],.fs [[.fs [[.int .i64 0]]]]],.agg [.fs y3.1,.fs y3.2.1,.fs y3.2.2.1,.fs y3.2.2.2.1,.fs y3.2.2.2.2.1,.fs y3.2.2.2.2.2.1,.int .i64 y3.2.2.2.2.2.2],.int .i64 0,.agg [.int .i64 12,.int .i64 0,.int .i64 0,.int .i64 0,.int .i64 (-1),.int .i64 0,.int .i64 0,.int .i64 (-1)],.rp y1 0,.rp y2 0]) fun y4 =>
   ZIe y4.2.2.2 y4.1 y4.2.1 y4.2.2.1 k)) (
  Option.bind (Z5b [[.int .i64 0,.int .i64 0,.int .i64 5]] [] [] [[.fs [[.int .i64 0]]]]) fun d =>
  (fun (z6:Option R) =>
   meet (
    z6) (
    z6)) (
   Option.bind (Zjd [.agg [.fs [[.int .i64 0,.int .i64 0,.int .i64 5]],.fs [],.fs [],.fs [[.fs [[.int .i64 0]]]]],.agg [.fs d.1,.fs d.2.1,.fs d.2.2.1,.fs d.2.2.2.1,.fs d.2.2.2.2.1,.fs d.2.2.2.2.2.1,.int .i64 d.2.2.2.2.2.2],.int .i64 0,.agg [.int .i64 12,.int .i64 0,.int .i64 0,.int .i64 0,.int .i64 (-1),.int .i64 0,.int .i64 0,.int .i64 (-1)],.rp y1 0,.rp y2 0]) fun e =>
   ZIe e.2.2.2 e.1 e.2.1 e.2.2.1 k)) (
  Option.bind (Z5b [[.int .i64 0,.int .i64 0,.int .i64 5]] [] [] [[.fs [[.int .i64 0]]]]) fun f =>
  Option.bind (Zjd [.agg [.fs [[.int .i64 0,.int .i64 0,.int .i64 5]],.fs [],.fs [],.fs [[.fs [[.int .i64 0]]]]],.agg [.fs f.1,.fs f.2.1,.fs f.2.2.1,.fs f.2.2.2.1,.fs f.2.2.2.2.1,.fs f.2.2.2.2.2.1,.int .i64 f.2.2.2.2.2.2],.int .i64 0,.agg [.int .i64 12,.int .i64 0,.int .i64 0,.int .i64 0,.int .i64 (-1),.int .i64 0,.int .i64 0,.int .i64 (-1)],.rp y1 0,.rp y2 0]) fun g =>
  ZIe g.2.2.2 g.1 g.2.1 g.2.2.1 k)
def ZmB (y:Bool):PV × Cs:=((PV.bool y),[])
def Zgq (a:ByteArray)(b d e:Rs):Option ((Bool)) :=
 cond (ByteArray.toList a == ByteArray.toList (ByteArray.mk #[112,111,111,108])) (
  some ((b.length:Int) ==(0:Int))) (
  some false)
theorem ZpF {R:Type} (a:ByteArray)(b d e:Rs)(k0:Bool→Option R):Tw (Zgq a b d e) (ZIe a b d e k0) (fun s=>match s with | a0=>k0 a0):=by
 unfold Zgq ZIe
 refine Zha (fun _=>?_) (fun _=>?_)
 ·exact Zda rfl
 ·exact Zda rfl
def ZZf:Option (Bool) :=
 Option.bind (Zub) fun y1 =>
 Option.bind (Zub) fun y2 =>
 Option.bind (Z5b [[.int .i64 0,.int .i64 0,.int .i64 5]] [] [] [[.fs [[.int .i64 0]]]]) fun y3 =>
 Option.bind (Zjd [.agg [.fs [[.int .i64 0,.int .i64 0,.int .i64 5]],.fs [],.fs [],.fs [[.fs [[.int .i64 0]]]]],.agg [.fs y3.1,.fs y3.2.1,.fs y3.2.2.1,.fs y3.2.2.2.1,.fs y3.2.2.2.2.1,.fs y3.2.2.2.2.2.1,.int .i64 y3.2.2.2.2.2.2],.int .i64 0,.agg [.int .i64 12,.int .i64 0,.int .i64 0,.int .i64 0,.int .i64 (-1),.int .i64 0,.int .i64 0,.int .i64 (-1)],.rp y1 0,.rp y2 0]) fun y4 =>
 Option.bind (Zgq y4.2.2.2 y4.1 y4.2.1 y4.2.2.1) fun s=>match s with
  | b5 =>
   some b5
theorem Z9I {R:Type} (k:Bool→Option R):Tw (ZZf) (Z6k  k) (fun s=>match s with | a0=>k a0):=by
 unfold ZZf Z6k
 refine Zaa fun y1 _=>?_
 refine Zaa fun y2 _=>?_
 intro s hs
 obtain ⟨y3,a,hs⟩:=Zba hs
 obtain ⟨y4,b,hs⟩:=Zba hs
 obtain ⟨d,e,hs⟩:=Zba hs
 have f:=fun k0=>ZpF (R:=R) _ _ _ _ k0 _ e
 rcases d with b5
 ·cases hs
  simp only [a,b,f,Option.bind_some,cond_true,cond_false,if_true,if_false,ite_true,ite_false,ZGa,and_self,true_and,and_true,eq_self,not_true_eq_false,not_false_eq_true,Bool.false_eq_true,reduceCtorEq]
theorem ZeJ:∀ (y:Bool),ZZf=some y→∀ (R:Type)(k:Bool→Option R),Z6k  k=k y:=fun y h=>fun R k=>Z9I k y h
def Zvu:Cs→Option (Bool)
 | []=>ZZf
 | _=>none
def Z7o:List (Nat × Cal):=[(8,.ctr ZSo),(15,.ctr ZOo),(10,.ctr ZVt)]
def Zhu:Ctr:=⟨[],Bool,Zvu,ZmB,true,.d⟩
def ZYh:List (Nat × LC):=[(4000007,⟨[4,5],[],[],[],[]⟩),
 (6000007,⟨[0],[],[],[],[]⟩)]
def ZGp:SP:=⟨Zea .undef [(4,(.ref 0 0)),(5,(.val .str))] 0 37,[(.pbox (.agg [.fs,.fs,.fs]) 3)],[]⟩
def ZVx:Nat→Option SP
 | _=>none
def ZQv:Nat→Option SP
 | 7=>some ZGp
 | _=>none
def ZJn (n:Nat)(ls:List Leaf)(R:Type)(k:Ex→St→Option R):Option R :=
 match ls with
 | [.str a,.rows b,.rows d,.rows e]=>ZIe a b d e (fun f=>k .ret ⟨Zea .undef [(0,(TV.val (PV.bool f)))] 0 37,[],[]⟩)
 | _=>none
def ZwB (n key:Nat) (ls:List Leaf) (R:Type) (k:Ex→St→Option R):Option R :=
 match key with
 | _=>none
def ZlB (n key:Nat) (ls:List Leaf) (R:Type) (k:Ex→St→Option R):Option R :=
 match key with
 | 7=>ZJn n ls R k
 | _=>none
def Zxr:Code→Bool:=onKeys [7]
def ZWB:Nat→Loops:=patL (Zsa ZYh) ZVx ZwB (ZCa ZYh) Zxr ZQv ZlB
theorem ZVC (n:Nat)(a:ByteArray)(b d e:Rs)  (R:Type) (k:Ex→St→Option R) :
  Z0a T G0 (Zja Z7o) (ZCa ZYh) (ZWB n) (Zia [1,1,1,1,1] (Zca Tryz.f13)) (Zoa ZGp [.str a,.rows b,.rows d,.rows e]) R k=ZJn n [.str a,.rows b,.rows d,.rows e] R k:=by kernel_rfl
theorem Z8I :
  funK T G0 (Zja Z7o) (ZWB 0) .d true [] (Zfa Tryz.f13) []=Z6k  (fun a0=>some (ZmB a0)):=by kernel_rfl
theorem ZrI {ps:Cs} {y:Bool} (h:Zvu ps=some y):ps=[]:=by
 unfold Zvu at h
 split at h
 ·rfl
 ·cases h
theorem ZNt:Zpa (Zca Tryz.f13)=[]:=by kernel_rfl
theorem ZDE:(ZAa (Zca Tryz.f13)).filter Zxr=[Zia [1,1,1,1,1] (Zca Tryz.f13)]:=by kernel_rfl
theorem ZiE (hΓ:Zga Tryz.prog G0 Z7o) (hok:∀ (y:Bool),ZZf=some y→∀ (R:Type)(k:Bool→Option R),Z6k  k=k y):Zka Tryz.prog G0 13 Zhu:=by
 refine ZHa mixed tOk (Zna hΓ) Tryz.func13 rfl rfl rfl rfl (F:=Zfa Tryz.f13) (ZBa ZYh) (pat:=ZVx) (L:=ZwB) (ZFa ZYh) (on:=Zxr) (patj:=ZQv) (J:=ZlB) (fun c hc ls R k=>?_) (fun c hc p hp m ls R k r h=>?_) (fun c hc p hp m ls R k r h=>?_) (fun ps x h=>?_)
 ·rw [show (Zfa Tryz.f13).code=Zca Tryz.f13 from rfl,ZNt] at hc
  cases hc
 ·rw [show (Zfa Tryz.f13).code=Zca Tryz.f13 from rfl,ZNt] at hc
  cases hc
 ·rw [show (Zfa Tryz.f13).code=Zca Tryz.f13 from rfl,ZDE] at hc
  simp only [List.mem_cons,List.not_mem_nil,or_false] at hc
  rcases hc with rfl
  ·obtain rfl:ZGp=p:=Option.some.inj hp
   change ZJn m ls R k=some r at h
   have h':=h
   unfold ZJn at h'
   split at h'
   ·exact (ZVC m _ _ _ _ R k).trans h
   ·cases h'
 ·obtain ⟨y,hy,hx⟩:=Zba h
  cases hx
  obtain rfl:=ZrI hy
  exact ⟨0,(Z8I).trans (hok y hy _ _)⟩
def Zfe {R:Type}:Nat→Int→Cs→Cs→Int→Int→Rs→Rs→Rs→Rs→Rs→Rs→Rs→Rs→Rs→Rs→Int→Rs→(Bool→Option R)→(Int→Cs→Cs→Rs→Rs→Rs→Rs→Rs→Rs→Rs→Rs→Rs→Rs→Int→Option R)→Option R
 | 0,_,_,_,_,_,_,_,_,_,_,_,_,_,_,_,_,_,_,_=>none
 | n + 1,a,b,d,e,f,g,i,j,l,o,q,t,u,v,z,A,B,k0,k1 =>
  cond (decide (f < e)) (
   if 0≤f∧f < (B.length:Int) then
    Option.bind (B[(Int.toNat f)]?) fun C =>
    Option.bind (Zra C 0 3) fun D =>
    if (PV.isAgg D 3)=true then
     Option.bind ((PV.cells D)[1]?) fun E =>
     Option.bind (PV.asS E) fun F =>
     Option.bind (ZJe F) fun G =>
     cond (!G.2.2.2.2.2.2.2.2) (
      k0 false) (
      Option.bind ((PV.cells D)[0]?) fun H =>
      Option.bind (PV.asI .i64 H) fun I =>
      Option.bind (Zjd [.agg [.fs g,.fs i,.fs j,.fs l],.agg [.fs o,.fs q,.fs t,.fs u,.fs v,.fs z,.int .i64 A],.int .i64 I,.agg [.int .i64 G.1,.int .i64 G.2.1,.int .i64 G.2.2.1,.int .i64 G.2.2.2.1,.int .i64 G.2.2.2.2.1,.int .i64 G.2.2.2.2.2.1,.int .i64 G.2.2.2.2.2.2.1,.int .i64 G.2.2.2.2.2.2.2.1],.rp b 0,.rp d 0]) fun J =>
      Option.bind ((PV.cells D)[2]?) fun K =>
      Option.bind (PV.asS K) fun L =>
      cond (!(ByteArray.toList J.2.2.2 == ByteArray.toList L)) (
       k0 false) (
       cond ((!(ByteArray.toList J.2.2.2 == ByteArray.toList (ByteArray.mk #[111,107]))) !=((IntKind.i64.wrap ((IntKind.i64.wrap ((J.1.length:Int) + (J.2.1.length:Int))) + (J.2.2.1.length:Int))) ==(0:Int))) (
        k0 false) (
        Zfe n a b d e (IntKind.i64.wrap (f + (1:Int))) g i j l o q t u v z A B k0 k1)))
    else none
   else none) (
   k1 a b d g i j l o q t u v z A)
def ZOe {R:Type} (n:Nat)(a:Int)(k:Bool→Option R):Option R :=
 Option.bind (ZFd) fun y2 =>
 Option.bind (Zub) fun y3 =>
 Option.bind (Zub) fun y4 =>
 Zfe n a y3 y4 52 0 y2.1 y2.2.1 y2.2.2.1 y2.2.2.2.1 y2.2.2.2.2.1 y2.2.2.2.2.2.1 y2.2.2.2.2.2.2.1 y2.2.2.2.2.2.2.2.1 y2.2.2.2.2.2.2.2.2.1 y2.2.2.2.2.2.2.2.2.2.1 y2.2.2.2.2.2.2.2.2.2.2 [[.int .i64 0,.str (ByteArray.mk #[97,100,100,32,53,32,48,32,48]),.str (ByteArray.mk #[110,111,32,115,116,111,112])],[.int .i64 0,.str (ByteArray.mk #[97,100,100,32,48,32,48,32,48]),.str (ByteArray.mk #[110,111,32,115,116,111,112])],[.int .i64 0,.str (ByteArray.mk #[97,100,100,32,50,32,50,32,48]),.str (ByteArray.mk #[110,111,32,99,97,114])],[.int .i64 0,.str (ByteArray.mk #[97,100,100,32,57,32,57,32,57]),.str (ByteArray.mk #[110,111,32,115,116,111,112])],[.int .i64 0,.str (ByteArray.mk #[97,100,100,32,49,32,48,32,48]),.str (ByteArray.mk #[110,111,32,116,104,101,114,101])],[.int .i64 0,.str (ByteArray.mk #[97,100,100,32,49,32,49,32,57,32,57]),.str (ByteArray.mk #[110,111,32,116,104,101,114,101])],[.int .i64 0,.str (ByteArray.mk #[97,100,100,32,51,32,48,32,48]),.str (ByteArray.mk #[110,111,32,112,97,105,114])],[.int .i64 0,.str (ByteArray.mk #[97,100,100,32,52,32,48,32,48,32,49]),.str (ByteArray.mk #[110,111,32,112,97,105,114])],[.int .i64 0,.str (ByteArray.mk #[97,100,100,32,50,32,48,32,48,32,49]),.str (ByteArray.mk #[110,111,32,112,97,105,114])],[.int .i64 0,.str (ByteArray.mk #[97,100,100,32,50,32,48,32,50]),.str (ByteArray.mk #[110,111,32,112,108,97,99,101])],[.int .i64 1,.str (ByteArray.mk #[97,100,100,32,50,32,48,32,49]),.str (ByteArray.mk #[111,107])],[.int .i64 0,.str (ByteArray.mk #[97,100,100,32,50,32,48,32,49]),.str (ByteArray.mk #[110,111,32,104,101,108,100])],[.int .i64 1,.str (ByteArray.mk #[97,100,100,32,50,32,48,32,48]),.str (ByteArray.mk #[110,111,32,102,105,116])],[.int .i64 0,.str (ByteArray.mk #[97,100,100,32,50,32,49,32,48]),.str (ByteArray.mk #[110,111,32,105,99,101,100])],[.int .i64 2,.str (ByteArray.mk #[97,100,100,32,51,32,49,32,48,32,49]),.str (ByteArray.mk #[110,111,32,105,99,101,100])],[.int .i64 0,.str (ByteArray.mk #[97,100,100,32,51,32,48,32,48,32,49]),.str (ByteArray.mk #[111,107])],[.int .i64 0,.str (ByteArray.mk #[97,100,100,32,51,32,48,32,48,32,50]),.str (ByteArray.mk #[110,111,32,102,105,116])],[.int .i64 0,.str (ByteArray.mk #[97,100,100,32,51,32,48,32,49,32,48]),.str (ByteArray.mk #[110,111,32,102,105,116])],[.int .i64 0,.str (ByteArray.mk #[97,100,100,32,51,32,48,32,48,32,51]),.str (ByteArray.mk #[110,111,32,112,108,97,99,101])],[.int .i64 0,.str (ByteArray.mk #[97,100,100,32,51,32,48,32,50,32,48]),.str (ByteArray.mk #[110,111,32,112,108,97,99,101])],[.int .i64 0,.str (ByteArray.mk #[100,101,108,32,50]),.str (ByteArray.mk #[110,111,32,103,111,110,101])],[.int .i64 0,.str (ByteArray.mk #[100,101,108,32,49]),.str (ByteArray.mk #[111,107])],[.int .i64 0,.str (ByteArray.mk #[100,101,108,32,55]),.str (ByteArray.mk #[110,111,32,115,116,111,112])],[.int .i64 0,.str (ByteArray.mk #[109,111,118,32,50,32,48,32,48]),.str (ByteArray.mk #[110,111,32,103,111,110,101])],[.int .i64 0,.str (ByteArray.mk #[109,111,118,32,49,32,48,32,48]),.str (ByteArray.mk #[110,111,32,115,97,109,101])],[.int .i64 0,.str (ByteArray.mk #[109,111,118,32,49,32,48,32,49]),.str (ByteArray.mk #[110,111,32,112,108,97,99,101])],[.int .i64 0,.str (ByteArray.mk #[109,111,118,32,49,32,49,32,48]),.str (ByteArray.mk #[110,111,32,105,99,101,100])],[.int .i64 0,.str (ByteArray.mk #[109,111,118,32,49,32,57,32,48]),.str (ByteArray.mk #[110,111,32,99,97,114])],[.int .i64 0,.str (ByteArray.mk #[109,111,118,32,49,32,48,32,48,32,48]),.str (ByteArray.mk #[110,111,32,112,97,105,114])],[.int .i64 0,.str (ByteArray.mk #[108,111,99,107,32,49]),.str (ByteArray.mk #[111,107])],[.int .i64 0,.str (ByteArray.mk #[108,111,99,107,32,50]),.str (ByteArray.mk #[110,111,32,104,101,108,100])],[.int .i64 1,.str (ByteArray.mk #[108,111,99,107,32,50]),.str (ByteArray.mk #[110,111,32,104,101,108,100])],[.int .i64 1,.str (ByteArray.mk #[102,114,101,101,32,50]),.str (ByteArray.mk #[111,107])],[.int .i64 0,.str (ByteArray.mk #[102,114,101,101,32,50]),.str (ByteArray.mk #[110,111,32,104,101,108,100])],[.int .i64 0,.str (ByteArray.mk #[102,114,101,101,32,49]),.str (ByteArray.mk #[110,111,32,104,101,108,100])],[.int .i64 0,.str (ByteArray.mk #[105,99,101,32,48]),.str (ByteArray.mk #[111,107])],[.int .i64 0,.str (ByteArray.mk #[105,99,101,32,49]),.str (ByteArray.mk #[110,111,32,105,99,101,100])],[.int .i64 2,.str (ByteArray.mk #[105,99,101,32,49]),.str (ByteArray.mk #[110,111,32,105,99,101,100])],[.int .i64 2,.str (ByteArray.mk #[116,104,97,119,32,49]),.str (ByteArray.mk #[111,107])],[.int .i64 0,.str (ByteArray.mk #[116,104,97,119,32,49]),.str (ByteArray.mk #[110,111,32,105,99,101,100])],[.int .i64 0,.str (ByteArray.mk #[116,104,97,119,32,48]),.str (ByteArray.mk #[110,111,32,105,99,101,100])],[.int .i64 0,.str (ByteArray.mk #[105,99,101,32,50]),.str (ByteArray.mk #[110,111,32,99,97,114])],[.int .i64 0,.str (ByteArray.mk #[111,112,116,32,53,32,49,32,50]),.str (ByteArray.mk #[110,111,32,99,97,114])],[.int .i64 0,.str (ByteArray.mk #[111,112,116,32,53,32,49,32,48,32,48]),.str (ByteArray.mk #[110,111,32,99,97,114])],[.int .i64 0,.str (ByteArray.mk #[111,112,116,32,53,32,49,32,48,32,50]),.str (ByteArray.mk #[110,111,32,99,97,114])],[.int .i64 0,.str (ByteArray.mk #[117,110,100,111]),.str (ByteArray.mk #[110,111,32,110,111,110,101])],[.int .i64 0,.str (ByteArray.mk #[114,101,100,111]),.str (ByteArray.mk #[110,111,32,110,111,110,101])],[.int .i64 0,.str (ByteArray.mk #[115,104,111,119,32,48]),.str (ByteArray.mk #[114,111,117,116,101,32,49])],[.int .i64 0,.str (ByteArray.mk #[115,104,111,119,32,49]),.str (ByteArray.mk #[114,111,117,116,101])],[.int .i64 0,.str (ByteArray.mk #[115,104,111,119,32,50]),.str (ByteArray.mk #[110,111,32,99,97,114])],[.int .i64 0,.str (ByteArray.mk #[112,111,111,108]),.str (ByteArray.mk #[112,111,111,108,32,50,32,51,32,52])],[.int .i64 0,.str (ByteArray.mk #[99,111,115,116]),.str (ByteArray.mk #[99,111,115,116,32,57,32,51])]] k
  (fun (b:Int)(u7 r8:Cs)(d e f g i j l o q t:Rs)(u:Int) =>
   Option.bind (Zib b 3) fun v =>
   Option.bind (Zjd [.agg [.fs d,.fs e,.fs f,.fs g],.agg [.fs i,.fs j,.fs l,.fs o,.fs q,.fs t,.int .i64 u],.int .i64 (IntKind.i64.wrap ((3:Int) + v)),.agg [.int .i64 5,.int .i64 2,.int .i64 0,.int .i64 0,.int .i64 (-1),.int .i64 0,.int .i64 0,.int .i64 (-1)],.rp u7 0,.rp r8 0]) fun z =>
   cond (ByteArray.toList z.2.2.2 == ByteArray.toList (ByteArray.mk #[110,111,32,104,101,108,100])) (
    Option.bind (ZMd d e f g i j l o q t u (IntKind.i64.wrap ((3:Int) + v)) [] [] []) fun A =>
    cond (A ==(0:Int)) (
     Option.bind (ZZf) fun B =>
     k B) (
     k false)) (
    k false))
def Zps (y:Bool):PV × Cs:=((PV.bool y),[])
def ZSf:Nat→Int→Cs→Cs→Int→Int→Rs→Rs→Rs→Rs→Rs→Rs→Rs→Rs→Rs→Rs→Int→Rs→Option ((Bool) ⊕ (Int × (Cs) × (Cs) × Rs × Rs × Rs × Rs × Rs × Rs × Rs × Rs × Rs × Rs × Int))
 | 0,_,_,_,_,_,_,_,_,_,_,_,_,_,_,_,_,_=>none
 | n + 1,a,b,d,e,f,g,i,j,l,o,q,t,u,v,z,A,B =>
  cond (decide (f < e)) (
   if 0≤f∧f < (B.length:Int) then
    Option.bind (B[(Int.toNat f)]?) fun C =>
    Option.bind (Zra C 0 3) fun D =>
    if (PV.isAgg D 3)=true then
     Option.bind ((PV.cells D)[1]?) fun E =>
     Option.bind (PV.asS E) fun F =>
     Option.bind (ZJe F) fun G =>
     cond (!G.2.2.2.2.2.2.2.2) (
      some (Sum.inl false)) (
      Option.bind ((PV.cells D)[0]?) fun H =>
      Option.bind (PV.asI .i64 H) fun I =>
      Option.bind (Zjd [.agg [.fs g,.fs i,.fs j,.fs l],.agg [.fs o,.fs q,.fs t,.fs u,.fs v,.fs z,.int .i64 A],.int .i64 I,.agg [.int .i64 G.1,.int .i64 G.2.1,.int .i64 G.2.2.1,.int .i64 G.2.2.2.1,.int .i64 G.2.2.2.2.1,.int .i64 G.2.2.2.2.2.1,.int .i64 G.2.2.2.2.2.2.1,.int .i64 G.2.2.2.2.2.2.2.1],.rp b 0,.rp d 0]) fun J =>
      Option.bind ((PV.cells D)[2]?) fun K =>
      Option.bind (PV.asS K) fun L =>
      cond (!(ByteArray.toList J.2.2.2 == ByteArray.toList L)) (
       some (Sum.inl false)) (
       cond ((!(ByteArray.toList J.2.2.2 == ByteArray.toList (ByteArray.mk #[111,107]))) !=((IntKind.i64.wrap ((IntKind.i64.wrap ((J.1.length:Int) + (J.2.1.length:Int))) + (J.2.2.1.length:Int))) ==(0:Int))) (
        some (Sum.inl false)) (
        ZSf n a b d e (IntKind.i64.wrap (f + (1:Int))) g i j l o q t u v z A B)))
    else none
   else none) (
   some (Sum.inr (a,b,d,g,i,j,l,o,q,t,u,v,z,A)))
theorem Zby {R:Type} (n:Nat)(a:Int)(b d:Cs)(e f:Int)(g i j l o q t u v z:Rs)(A:Int)(B:Rs)(k0:Bool→Option R)(k1:Int→Cs→Cs→Rs→Rs→Rs→Rs→Rs→Rs→Rs→Rs→Rs→Rs→Int→Option R):Tw (ZSf n a b d e f g i j l o q t u v z A B) (Zfe n a b d e f g i j l o q t u v z A B k0 k1) (fun s=>match s with | (Sum.inl a0)=>k0 a0 | (Sum.inr (a0,a1,a2,a3,a4,a5,a6,a7,a8,a9,C,D,E,F))=>k1 a0 a1 a2 a3 a4 a5 a6 a7 a8 a9 C D E F):=by
 induction n generalizing a b d e f g i j l o q t u v z A B with
 | zero=>exact Zwa
 | succ n ih =>
  unfold ZSf Zfe
  refine Zha (fun _=>?_) (fun _=>?_)
  ·refine Zqa fun _=>?_
   refine Zaa fun G _=>?_
   refine Zaa fun H _=>?_
   refine Zqa fun _=>?_
   refine Zaa fun I _=>?_
   refine Zaa fun J _=>?_
   refine Zaa fun K _=>?_
   refine Zha (fun _=>?_) (fun _=>?_)
   ·exact Zda rfl
   ·refine Zaa fun L _=>?_
    refine Zaa fun M _=>?_
    refine Zaa fun N _=>?_
    refine Zaa fun O _=>?_
    refine Zaa fun Q _=>?_
    refine Zha (fun _=>?_) (fun _=>?_)
    ·exact Zda rfl
    ·refine Zha (fun _=>?_) (fun _=>?_)
     ·exact Zda rfl
     ·exact ih _ _ _ _ _ _ _ _ _ _ _ _ _ _ _ _ _
  ·exact Zda rfl
def Z4b (a:Int):Option (Bool) :=
 Option.bind (ZFd) fun y2 =>
 Option.bind (Zub) fun y3 =>
 Option.bind (Zub) fun y4 =>
 Option.bind (ZSf 9223372036854775808 a y3 y4 52 0 y2.1 y2.2.1 y2.2.2.1 y2.2.2.2.1 y2.2.2.2.2.1 y2.2.2.2.2.2.1 y2.2.2.2.2.2.2.1 y2.2.2.2.2.2.2.2.1 y2.2.2.2.2.2.2.2.2.1 y2.2.2.2.2.2.2.2.2.2.1 y2.2.2.2.2.2.2.2.2.2.2 [[.int .i64 0,.str (ByteArray.mk #[97,100,100,32,53,32,48,32,48]),.str (ByteArray.mk #[110,111,32,115,116,111,112])],[.int .i64 0,.str (ByteArray.mk #[97,100,100,32,48,32,48,32,48]),.str (ByteArray.mk #[110,111,32,115,116,111,112])],[.int .i64 0,.str (ByteArray.mk #[97,100,100,32,50,32,50,32,48]),.str (ByteArray.mk #[110,111,32,99,97,114])],[.int .i64 0,.str (ByteArray.mk #[97,100,100,32,57,32,57,32,57]),.str (ByteArray.mk #[110,111,32,115,116,111,112])],[.int .i64 0,.str (ByteArray.mk #[97,100,100,32,49,32,48,32,48]),.str (ByteArray.mk #[110,111,32,116,104,101,114,101])],[.int .i64 0,.str (ByteArray.mk #[97,100,100,32,49,32,49,32,57,32,57]),.str (ByteArray.mk #[110,111,32,116,104,101,114,101])],[.int .i64 0,.str (ByteArray.mk #[97,100,100,32,51,32,48,32,48]),.str (ByteArray.mk #[110,111,32,112,97,105,114])],[.int .i64 0,.str (ByteArray.mk #[97,100,100,32,52,32,48,32,48,32,49]),.str (ByteArray.mk #[110,111,32,112,97,105,114])],[.int .i64 0,.str (ByteArray.mk #[97,100,100,32,50,32,48,32,48,32,49]),.str (ByteArray.mk #[110,111,32,112,97,105,114])],[.int .i64 0,.str (ByteArray.mk #[97,100,100,32,50,32,48,32,50]),.str (ByteArray.mk #[110,111,32,112,108,97,99,101])],[.int .i64 1,.str (ByteArray.mk #[97,100,100,32,50,32,48,32,49]),.str (ByteArray.mk #[111,107])],[.int .i64 0,.str (ByteArray.mk #[97,100,100,32,50,32,48,32,49]),.str (ByteArray.mk #[110,111,32,104,101,108,100])],[.int .i64 1,.str (ByteArray.mk #[97,100,100,32,50,32,48,32,48]),.str (ByteArray.mk #[110,111,32,102,105,116])],[.int .i64 0,.str (ByteArray.mk #[97,100,100,32,50,32,49,32,48]),.str (ByteArray.mk #[110,111,32,105,99,101,100])],[.int .i64 2,.str (ByteArray.mk #[97,100,100,32,51,32,49,32,48,32,49]),.str (ByteArray.mk #[110,111,32,105,99,101,100])],[.int .i64 0,.str (ByteArray.mk #[97,100,100,32,51,32,48,32,48,32,49]),.str (ByteArray.mk #[111,107])],[.int .i64 0,.str (ByteArray.mk #[97,100,100,32,51,32,48,32,48,32,50]),.str (ByteArray.mk #[110,111,32,102,105,116])],[.int .i64 0,.str (ByteArray.mk #[97,100,100,32,51,32,48,32,49,32,48]),.str (ByteArray.mk #[110,111,32,102,105,116])],[.int .i64 0,.str (ByteArray.mk #[97,100,100,32,51,32,48,32,48,32,51]),.str (ByteArray.mk #[110,111,32,112,108,97,99,101])],[.int .i64 0,.str (ByteArray.mk #[97,100,100,32,51,32,48,32,50,32,48]),.str (ByteArray.mk #[110,111,32,112,108,97,99,101])],[.int .i64 0,.str (ByteArray.mk #[100,101,108,32,50]),.str (ByteArray.mk #[110,111,32,103,111,110,101])],[.int .i64 0,.str (ByteArray.mk #[100,101,108,32,49]),.str (ByteArray.mk #[111,107])],[.int .i64 0,.str (ByteArray.mk #[100,101,108,32,55]),.str (ByteArray.mk #[110,111,32,115,116,111,112])],[.int .i64 0,.str (ByteArray.mk #[109,111,118,32,50,32,48,32,48]),.str (ByteArray.mk #[110,111,32,103,111,110,101])],[.int .i64 0,.str (ByteArray.mk #[109,111,118,32,49,32,48,32,48]),.str (ByteArray.mk #[110,111,32,115,97,109,101])],[.int .i64 0,.str (ByteArray.mk #[109,111,118,32,49,32,48,32,49]),.str (ByteArray.mk #[110,111,32,112,108,97,99,101])],[.int .i64 0,.str (ByteArray.mk #[109,111,118,32,49,32,49,32,48]),.str (ByteArray.mk #[110,111,32,105,99,101,100])],[.int .i64 0,.str (ByteArray.mk #[109,111,118,32,49,32,57,32,48]),.str (ByteArray.mk #[110,111,32,99,97,114])],[.int .i64 0,.str (ByteArray.mk #[109,111,118,32,49,32,48,32,48,32,48]),.str (ByteArray.mk #[110,111,32,112,97,105,114])],[.int .i64 0,.str (ByteArray.mk #[108,111,99,107,32,49]),.str (ByteArray.mk #[111,107])],[.int .i64 0,.str (ByteArray.mk #[108,111,99,107,32,50]),.str (ByteArray.mk #[110,111,32,104,101,108,100])],[.int .i64 1,.str (ByteArray.mk #[108,111,99,107,32,50]),.str (ByteArray.mk #[110,111,32,104,101,108,100])],[.int .i64 1,.str (ByteArray.mk #[102,114,101,101,32,50]),.str (ByteArray.mk #[111,107])],[.int .i64 0,.str (ByteArray.mk #[102,114,101,101,32,50]),.str (ByteArray.mk #[110,111,32,104,101,108,100])],[.int .i64 0,.str (ByteArray.mk #[102,114,101,101,32,49]),.str (ByteArray.mk #[110,111,32,104,101,108,100])],[.int .i64 0,.str (ByteArray.mk #[105,99,101,32,48]),.str (ByteArray.mk #[111,107])],[.int .i64 0,.str (ByteArray.mk #[105,99,101,32,49]),.str (ByteArray.mk #[110,111,32,105,99,101,100])],[.int .i64 2,.str (ByteArray.mk #[105,99,101,32,49]),.str (ByteArray.mk #[110,111,32,105,99,101,100])],[.int .i64 2,.str (ByteArray.mk #[116,104,97,119,32,49]),.str (ByteArray.mk #[111,107])],[.int .i64 0,.str (ByteArray.mk #[116,104,97,119,32,49]),.str (ByteArray.mk #[110,111,32,105,99,101,100])],[.int .i64 0,.str (ByteArray.mk #[116,104,97,119,32,48]),.str (ByteArray.mk #[110,111,32,105,99,101,100])],[.int .i64 0,.str (ByteArray.mk #[105,99,101,32,50]),.str (ByteArray.mk #[110,111,32,99,97,114])],[.int .i64 0,.str (ByteArray.mk #[111,112,116,32,53,32,49,32,50]),.str (ByteArray.mk #[110,111,32,99,97,114])],[.int .i64 0,.str (ByteArray.mk #[111,112,116,32,53,32,49,32,48,32,48]),.str (ByteArray.mk #[110,111,32,99,97,114])],[.int .i64 0,.str (ByteArray.mk #[111,112,116,32,53,32,49,32,48,32,50]),.str (ByteArray.mk #[110,111,32,99,97,114])],[.int .i64 0,.str (ByteArray.mk #[117,110,100,111]),.str (ByteArray.mk #[110,111,32,110,111,110,101])],[.int .i64 0,.str (ByteArray.mk #[114,101,100,111]),.str (ByteArray.mk #[110,111,32,110,111,110,101])],[.int .i64 0,.str (ByteArray.mk #[115,104,111,119,32,48]),.str (ByteArray.mk #[114,111,117,116,101,32,49])],[.int .i64 0,.str (ByteArray.mk #[115,104,111,119,32,49]),.str (ByteArray.mk #[114,111,117,116,101])],[.int .i64 0,.str (ByteArray.mk #[115,104,111,119,32,50]),.str (ByteArray.mk #[110,111,32,99,97,114])],[.int .i64 0,.str (ByteArray.mk #[112,111,111,108]),.str (ByteArray.mk #[112,111,111,108,32,50,32,51,32,52])],[.int .i64 0,.str (ByteArray.mk #[99,111,115,116]),.str (ByteArray.mk #[99,111,115,116,32,57,32,51])]]) fun s=>match s with
  | (Sum.inl b5) =>
   some b5
  | (Sum.inr (b,u7,r8,d,e,f,g,i,j,l,o,q,t,u)) =>
   Option.bind (Zib b 3) fun v =>
   Option.bind (Zjd [.agg [.fs d,.fs e,.fs f,.fs g],.agg [.fs i,.fs j,.fs l,.fs o,.fs q,.fs t,.int .i64 u],.int .i64 (IntKind.i64.wrap ((3:Int) + v)),.agg [.int .i64 5,.int .i64 2,.int .i64 0,.int .i64 0,.int .i64 (-1),.int .i64 0,.int .i64 0,.int .i64 (-1)],.rp u7 0,.rp r8 0]) fun z =>
   cond (ByteArray.toList z.2.2.2 == ByteArray.toList (ByteArray.mk #[110,111,32,104,101,108,100])) (
    Option.bind (ZMd d e f g i j l o q t u (IntKind.i64.wrap ((3:Int) + v)) [] [] []) fun A =>
    cond (A ==(0:Int)) (
     Option.bind (ZZf) fun B =>
     some B) (
     some false)) (
    some false)
theorem ZpA {R:Type} (a:Int)(k:Bool→Option R):Tw (Z4b a) (ZOe 9223372036854775808 a k) (fun s=>match s with | a0=>k a0):=by
 unfold Z4b ZOe
 refine Zaa fun y2 _=>?_
 refine Zaa fun y3 _=>?_
 refine Zaa fun y4 _=>?_
 refine Zma (Zby _ _ _ _ _ _ _ _ _ _ _ _ _ _ _ _ _ _ _ _) (fun s=>?_)
 rcases s with b5 | ⟨b,u7,r8,d,e,f,g,i,j,l,o,q,t,u⟩
 ·exact Zda rfl
 ·refine Zaa fun v _=>?_
  refine Zaa fun z _=>?_
  refine Zha (fun _=>?_) (fun _=>?_)
  ·refine Zaa fun A _=>?_
   refine Zha (fun _=>?_) (fun _=>?_)
   ·refine Zaa fun B _=>?_
    exact Zda rfl
   ·exact Zda rfl
  ·exact Zda rfl
theorem ZAA:∀ (a:Int)(y:Bool),Z4b a=some y→∃ n,∀ (R:Type)(k:Bool→Option R),ZOe n a k=k y:=fun a y h=>⟨9223372036854775808,fun R k=>ZpA a k y h⟩
def ZCl:Cs→Option (Bool)
 | [.int .i64 a]=>Z4b a
 | _=>none
def Znh:List (Nat × Cal):=[(7,.ctr ZKw),(8,.ctr ZSo),(11,.ctr Z9g),(10,.ctr ZVt),(12,.ctr ZGn),(13,.ctr Zhu),(9,.ctr ZSs)]
def ZEl:Ctr:=⟨[none],Bool,ZCl,Zps,true,.d⟩
def ZJd:List (Nat × LC):=[(6,⟨[0,3,4,5,6,79,80,81],[],[],[],[]⟩),
 (2000006,⟨[2],[],[],[],[]⟩),
 (1006000,⟨[0,3,4,5,6],[],[],[],[]⟩)]
def Z9j:SP:=⟨Zea .undef [(0,(.val (.int .i64))),(3,(.ref 0 0)),(4,(.ref 1 0)),(5,(.val (.rp 0))),(6,(.val (.rp 0))),(79,(.ow 2)),(80,(.val (.int .i64))),(81,(.val (.int .i64)))] 0 152,[(.pbox (.agg [.fs,.fs,.fs,.fs]) 4),(.pbox (.agg [.fs,.fs,.fs,.fs,.fs,.fs,(.int .i64)]) 7),(.row 3)],[]⟩
def Zyp:Nat→Option SP
 | 6=>some Z9j
 | _=>none
def Z2n:Nat→Option SP
 | _=>none
def Zhd (n:Nat)(ls:List Leaf)(R:Type)(k:Ex→St→Option R):Option R :=
 match ls with
 | [.int a,.cells b,.cells d,.int e,.int f,.rows g,.rows i,.rows j,.rows l,.rows o,.rows q,.rows t,.rows u,.rows v,.rows z,.int A,.rows B]=>Zfe n a b d e f g i j l o q t u v z A B (fun C=>k .ret ⟨Zea .undef [(2,(TV.val (PV.bool C)))] 0 152,[],[]⟩)
   (fun D E F G H I J K L M N O Q U=>k (.exit 0) ⟨Zea .undef [(0,(TV.val (PV.int .i64 D))),(3,(TV.ref 0 0)),(4,(TV.ref 1 0)),(5,(TV.val (PV.rp E 0))),(6,(TV.val (PV.rp F 0)))] 0 152,[(Ob.pbox (PV.agg [.fs G,.fs H,.fs I,.fs J]) 4),(Ob.pbox (PV.agg [.fs K,.fs L,.fs M,.fs N,.fs O,.fs Q,.int .i64 U]) 7)],[]⟩)
 | _=>none
def ZSr (n key:Nat) (ls:List Leaf) (R:Type) (k:Ex→St→Option R):Option R :=
 match key with
 | 6=>Zhd n ls R k
 | _=>none
def Zws (n key:Nat) (ls:List Leaf) (R:Type) (k:Ex→St→Option R):Option R :=
 match key with
 | _=>none
def ZAq:Code→Bool:=fun _=>false
def ZJs:Nat→Loops:=patL (Zsa ZJd) Zyp ZSr (ZCa ZJd) ZAq Z2n Zws
theorem ZOw (n:Nat)(a:Int)(b d:Cs)(e f:Int)(g i j l o q t u v z:Rs)(A:Int)(B:Rs)  (R:Type) (k:Ex→St→Option R) :
  Zza T G0 (Zja Znh) (Zsa ZJd) (ZJs n) (Zia [1,1,1,1,0,1,0,0] (Zca Tryz.f3)) (Zoa Z9j [.int a,.cells b,.cells d,.int e,.int f,.rows g,.rows i,.rows j,.rows l,.rows o,.rows q,.rows t,.rows u,.rows v,.rows z,.int A,.rows B]) R k=Zhd (n + 1) [.int a,.cells b,.cells d,.int e,.int f,.rows g,.rows i,.rows j,.rows l,.rows o,.rows q,.rows t,.rows u,.rows v,.rows z,.int A,.rows B] R k:=by kernel_rfl
theorem ZRA (n:Nat)(a:Int) :
  funK T G0 (Zja Znh) (ZJs n) .d true [none] (Zfa Tryz.f3) [.int .i64 a]=ZOe n  a (fun a0=>some (Zps a0)):=by kernel_rfl
theorem Zqy {ps:Cs} {y:Bool} (h:ZCl ps=some y):∃ (a:Int),ps=[.int .i64 a]:=by
 unfold ZCl at h
 split at h
 ·exact ⟨_,rfl⟩
 ·cases h
theorem Zxm:Zpa (Zca Tryz.f3)=[Zia [1,1,1,1,0,1,0,0] (Zca Tryz.f3)]:=by kernel_rfl
theorem Z5w (hΓ:Zga Tryz.prog G0 Znh) (hok:∀ (a:Int)(y:Bool),Z4b a=some y→∃ n,∀ (R:Type)(k:Bool→Option R),ZOe n  a k=k y):Zka Tryz.prog G0 3 ZEl:=by
 refine ZHa mixed tOk (Zna hΓ) Tryz.func3 rfl rfl rfl rfl (F:=Zfa Tryz.f3) (ZBa ZJd) (pat:=Zyp) (L:=ZSr) (ZFa ZJd) (on:=ZAq) (patj:=Z2n) (J:=Zws) (fun c hc ls R k=>?_) (fun c hc p hp m ls R k r h=>?_) (fun c hc p hp m ls R k r h=>?_) (fun ps x h=>?_)
 ·rw [show (Zfa Tryz.f3).code=Zca Tryz.f3 from rfl,Zxm] at hc
  simp only [List.mem_cons,List.not_mem_nil,or_false] at hc
  rcases hc with rfl
  ·show Zhd 0 ls R k=none
   unfold Zhd
   split
   ·rfl
   ·rfl
 ·rw [show (Zfa Tryz.f3).code=Zca Tryz.f3 from rfl,Zxm] at hc
  simp only [List.mem_cons,List.not_mem_nil,or_false] at hc
  rcases hc with rfl
  ·obtain rfl:Z9j=p:=Option.some.inj hp
   change Zhd (m + 1) ls R k=some r at h
   have h':=h
   unfold Zhd at h'
   split at h'
   ·exact (ZOw m _ _ _ _ _ _ _ _ _ _ _ _ _ _ _ _ _ R k).trans h
   ·cases h'
 ·cases (List.mem_filter.1 hc).2
 ·obtain ⟨y,hy,hx⟩:=Zba h
  cases hx
  obtain ⟨a,rfl⟩:=Zqy hy
  obtain ⟨n,hn⟩:=hok a y hy
  exact ⟨n,(ZRA n a).trans (hn _ _)⟩
end
end Go.Proofs.YtgpjfmihogaooaaGreatDoorV
namespace Go.Proofs.YtgpjfmihogaooaaGreatDoorV
open Go Go.RowKit
set_option maxRecDepth 100000
theorem plain_frozen {w:World} {b:Nat} {C:Array Value} {t:TypeId} {fr:Nat × Nat} (hg:w.heap[b]? = some (.cells C t fr)) (hu:unfrozen C fr) (q:Nat):w.frozen? ⟨b,q,none⟩=false:=by
 obtain ⟨lo,hi⟩:=fr
 simp only [World.frozen?,hg]
 rcases hu with h | h
 ·simp only at h
  subst h
  by_cases h1:lo≤q
  ·have h2:¬ q < lo:=by omega
   simp [h2]
  ·simp [h1]
 ·exact h.1.elim
theorem setCells_upd {b:Nat} {t:TypeId} {fr:Nat × Nat}:∀ (vs:List Value)(o:Nat)(C:Array Value)(w:World),w.heap[b]? = some (.cells C t fr)→o + vs.length≤C.size →
  ∃ C',Upd w b (.cells C' t fr) (w.setCells b o vs)∧C'.size=C.size∧∀ q,C'[q]? = if o≤q∧q < o + vs.length then vs[q - o]? else C[q]?
 | [],o,C,w,hg,_=>⟨C,⟨rfl,rfl,rfl,rfl,fun _ _=>rfl,hg⟩,rfl,fun q=>by rw [if_neg (by simp only [List.length_nil]; omega)]⟩
 | v :: vs,o,C,w,hg,hl=>by
  simp only [List.length_cons] at hl
  have hu:=setCell_upd w b o C t fr v hg
  obtain ⟨C',h1,h2,h3⟩:=setCells_upd vs (o + 1) (C.setIfInBounds o v) _ hu.here (by simp; omega)
  refine ⟨C',hu.trans h1,by simpa using h2,fun q=>?_⟩
  rw [h3 q]
  simp only [List.length_cons]
  by_cases h:o + 1≤q∧q < o + 1 + vs.length
  ·rw [if_pos h,if_pos (by omega)]
   obtain ⟨d,rfl⟩:∃ d,q=o + 1 + d:=⟨q - (o + 1),by omega⟩
   rw [show o + 1 + d - (o + 1)=d by omega,show o + 1 + d - o=d + 1 by omega]
   rfl
  ·rw [if_neg h,Array.getElem?_setIfInBounds]
   by_cases e:o=q
   ·subst e
    rw [if_pos rfl,if_pos (by omega),if_pos (by omega),Nat.sub_self]
    rfl
   ·rw [if_neg e,if_neg (by omega)]
theorem ins_rel {w w':World} {S:Nat→Prop} {s1 v1:List (List PV)} {i b s:Nat} {cs vs:List Value} (hk:Keep w S w' S) (hi:i≤s1.length) (l1:∀ e ∈ s1,e.length=1) (l2:∀ e ∈ v1,e.length=1) (hcl:cs.length=s1.length) (hvl:vs.length=v1.length)
  (h1:relL w S s1.flatten cs) (h2:relL w S v1.flatten vs) (o1:∀ u ∈ cs,u.oneCell'=true) (o2:∀ u ∈ vs,u.oneCell'=true)
  (hc:∀ (j:Nat)(u:Value),(cs.take i ++ vs ++ cs.drop i)[j]? = some u→w'.cell? ⟨b,s + j,none⟩=some u):relEs w' S b s 1 (s1.take i ++ v1 ++ s1.drop i):=by
 have hf:∀ (l:List (List PV)) (k:Nat),(∀ e ∈ l,e.length=1)→(l.take k).flatten=l.flatten.take k∧(l.drop k).flatten=l.flatten.drop k:=by
  intro l
  induction l with
  | nil=>intro k _; simp
  | cons e l ih =>
   intro k h
   cases k with
   | zero=>simp
   | succ k =>
    have he:=h e (List.mem_cons_self ..)
    obtain ⟨a,rfl⟩:∃ a,e=[a]:=by
     cases e with
     | nil=>simp at he
     | cons a r=>cases r with | nil=>exact ⟨a,rfl⟩ | cons _ _=>simp at he
    have:=ih k fun x hx=>h x (List.mem_cons_of_mem _ hx)
    simp [this.1,this.2]
 refine relEs_cells (us:=cs.take i ++ vs ++ cs.drop i) (fun e he=>?_) ?_ (fun u hu=>?_) hc
 ·simp only [List.mem_append] at he
  rcases he with (he | he) | he
  ·exact l1 e (List.mem_of_mem_take he)
  ·exact l2 e he
  ·exact l1 e (List.mem_of_mem_drop he)
 ·rw [List.flatten_append,List.flatten_append,(hf s1 i l1).1,(hf s1 i l1).2]
  exact relL_append (relL_append (relL_take (relL_keep hk _ _ h1) i) (relL_keep hk _ _ h2)) (relL_drop (relL_keep hk _ _ h1) i)
 ·simp only [List.mem_append] at hu
  rcases hu with (hu | hu) | hu
  ·exact o1 u (List.mem_of_mem_take hu)
  ·exact o2 u hu
  ·exact o1 u (List.mem_of_mem_drop hu)
theorem ins_get {cs vs:List Value} {i j:Nat} {u:Value} (hi:i≤cs.length) (h:(cs.take i ++ vs ++ cs.drop i)[j]? = some u) :
  (j < i∧cs[j]? = some u)∨(i≤j∧j < i + vs.length∧vs[j - i]? = some u)∨(i + vs.length≤j∧(cs.drop i)[j - (i + vs.length)]? = some u):=by
 rw [List.append_assoc,List.getElem?_append] at h
 simp only [List.length_take,Nat.min_eq_left hi] at h
 by_cases h1:j < i
 ·rw [if_pos h1,List.getElem?_take,if_pos h1] at h
  exact .inl ⟨h1,h⟩
 ·rw [if_neg h1,List.getElem?_append] at h
  by_cases h2:j - i < vs.length
  ·rw [if_pos h2] at h
   exact .inr (.inl ⟨by omega,by omega,h⟩)
  ·rw [if_neg h2] at h
   exact .inr (.inr ⟨by omega,by rw [show j - (i + vs.length)=j - i - vs.length by omega]; exact h⟩)
theorem relEs_lens {w:World} {S:Nat→Prop}:∀ {es:List (List PV)} {b s sz:Nat},relEs w S b s sz es→∀ e ∈ es,e.length=sz
 | [],_,_,_,_,e,he=>by cases he
 | x :: es,b,s,sz,h,e,he=>by
  simp only [relEs] at h
  rcases List.mem_cons.1 he with rfl | he
  ·exact h.1
  ·exact relEs_lens h.2.2 e he
theorem ins_here {w w':World} {S:Nat→Prop} {b s c b2:Nat} {C C':Array Value} {t:TypeId} {fr:Nat × Nat} {es es':List (List PV)} {u0 u1 u2:Value} (hS:¬ S b∧b < w.heap.size) (hst:∀ k,S k→k < w.heap.size)
  (hu:Upd w b (.cells C' t fr) w') (hf:unfrozen C' fr) (ho:oneCells C') (hsz:s + c * 1≤C'.size) (hc:es'.length≤c) (hcm:c≤maxLen) (hr:relEs w' S b s 1 es') :
  Behind w S [[b],[b2]] ZRd [u0,u1,u2] (.os es' 1) [] (.slice (some ⟨b,s,none⟩) es'.length c) w' S [b] []:=by
 refine ⟨hu.os,hu.tape,hu.output,by rw [hu.size]; exact Nat.le_refl _,fun k _ hk=>hu.other k (fun e=>hk (by simp [e])),fun _ h=>h,fun _ h=>.inl h,fun k hk=>by rw [hu.size]; exact hst k hk,by simp,?_,?_⟩
 ·intro k hk
  simp only [List.flatten_nil,List.append_nil,List.mem_singleton] at hk
  subst hk
  exact ⟨hS.1,by rw [hu.size]; exact hS.2,.inl (by simp)⟩
 ·intro S'' hS''
  have:S''=S:=hS''.elim id (fun h=>by cases h)
  subst this
  refine ⟨?_,?_⟩
  ·show ownS w' S'' .s _ _ _
   simp only [ownS]
   exact ⟨es',1,rfl,.inr ⟨b,s,c,_,C',t,fr,rfl,.inr rfl,rfl,hc,hcm,hu.here,hf,ho,fun _=>hsz,hr⟩⟩
  ·show Z7b w' S'' [some (.s,false),none,some (.s,false)] _ _ _ _
   simp only [Z7b]
   exact ⟨_,_,_,_,rfl,rfl,_,_,rfl,_,_,_,_,rfl,rfl,rfl,rfl,trivial,trivial⟩
theorem ins_new {w w':World} {S:Nat→Prop} {c b2:Nat} {f0:List Nat} {C:Array Value} {t:TypeId} {es':List (List PV)} {u0 u1 u2:Value} (hst:∀ k,S k→k < w.heap.size)
  (hos:w'.os=w.os) (ht:w'.tape=w.tape) (hout:w'.output=w.output) (hsize:w'.heap.size=w.heap.size + 1) (hold:∀ k,k < w.heap.size→w'.heap[k]? = w.heap[k]?) (hg:w'.heap[w.heap.size]? = some (.cells C t (0,0)))
  (ho:oneCells C) (hsz:c * 1≤C.size) (hc:es'.length≤c) (hcm:c≤maxLen) (hr:relEs w' S w.heap.size 0 1 es') :
  Behind w S [f0,[b2]] ZRd [u0,u1,u2] (.os es' 1) [] (.slice (some ⟨w.heap.size,0,none⟩) es'.length c) w' S [w.heap.size] []:=by
 refine ⟨hos,ht,hout,by omega,fun k hk _=>hold k hk,fun _ h=>h,fun _ h=>.inl h,fun k hk=>by have:=hst k hk; omega,by simp,?_,?_⟩
 ·intro k hk
  simp only [List.flatten_nil,List.append_nil,List.mem_singleton] at hk
  subst hk
  exact ⟨fun h=>by have:=hst _ h; omega,by omega,.inr (Nat.le_refl _)⟩
 ·intro S'' hS''
  have:S''=S:=hS''.elim id (fun h=>by cases h)
  subst this
  refine ⟨?_,?_⟩
  ·show ownS w' S'' .s _ _ _
   simp only [ownS]
   exact ⟨es',1,rfl,.inr ⟨_,0,c,_,C,t,_,rfl,.inr rfl,rfl,hc,hcm,hg,.inl rfl,ho,fun _=>by simpa using hsz,hr⟩⟩
  ·show Z7b w' S'' [some (.s,false),none,some (.s,false)] _ _ _ _
   simp only [Z7b]
   exact ⟨_,_,_,_,rfl,rfl,_,_,rfl,_,_,_,_,rfl,rfl,rfl,rfl,trivial,trivial⟩
theorem Z5A:Zka Tryz.prog G0 220 ZRd:=by
 intro w S ps us fps r outs hargs hnd hfp hst hgo hx
 obtain ⟨y,hy,hx⟩:=Zba hx
 cases hx
 change ZWn ps=some y at hy
 unfold ZWn at hy
 split at hy
 case h_2=>cases hy
 rename_i s1 i v1
 unfold sInsert at hy
 split at hy
 case isFalse=>cases hy
 rename_i hg
 obtain ⟨d,f,l,hbig⟩:=hg
 cases hy
 change ZRb w S [some (.s,false),none,some (.s,false)] _ us fps at hargs
 simp only [ZRb,ownS,rel] at hargs
 obtain ⟨_,_,u0,_,f0,_,e1,rfl,rfl,⟨_,_,e2,o⟩,_,_,u1,_,e3,rfl,z,_,_,u2,_,f2,_,e4,rfl,rfl,⟨_,_,e5,A⟩,e6,rfl,rfl⟩:=hargs
 cases e1
 cases e2
 cases e3
 cases e4
 cases e5
 cases e6
 simp only [rel] at z
 subst z
 obtain ⟨ni,rfl⟩:∃ ni:Nat,i=(ni:Int):=⟨i.toNat,by omega⟩
 have hni:ni≤s1.length:=by omega
 rw [Int.toNat_natCast]
 rcases A with ⟨_,B,_⟩ | ⟨b2,q2,c2,a2,C2,t2,D,rfl,E,rfl,F,G,H,I,J,K,L⟩
 ·exact absurd (by rw [B]; rfl) l
 have hA2:a2=⟨b2,q2,none⟩:=by rcases E with h | h; (· omega); exact h
 subst hA2
 obtain ⟨vs,hvl,hvc,hvo,hvr⟩:=relEs_flat L
 rw [Nat.mul_one] at hvl
 have hm:0 < v1.length:=by omega
 have hS2:=hfp b2 (by simp)
 have hcall:∀ args:Array Value,(callFunc 220 args).run Tryz.prog w=.ok (.enter 220 args) w:=by
  intro args
  simp [callFunc,Tryz.func220]
  rfl
 have fin:∀ {u0:Value} {R:Value→World→Prop},(Calls Tryz.prog 220 #[u0,.int .i64 ni,.slice (some ⟨b2,q2,none⟩) v1.length c2] w fun e w'=>∃ v,e=.returned v∧R v w')→Applies Tryz.prog 220 ([u0,.int .i64 ni,.slice (some ⟨b2,q2,none⟩) v1.length c2]).toArray w R:=by
  intro u0 R h
  unfold Applies
  rw [hcall]
  exact h
 have hlen:(s1.take ni ++ v1 ++ s1.drop ni).length=s1.length + v1.length:=by simp; omega
 have hzc:(Value.int IntKind.i64 0).cells=#[Value.int .i64 0]:=rfl
 have hzo:∀ k,∀ u ∈ (Builtin.zeroCells (Value.int IntKind.i64 0).cells k).toList,u.oneCell'=true:=fun k=>zeroCells_one (by rw [hzc]; simp [Value.oneCell']) (by rw [hzc]; simp)
 have hzs:∀ k,(Builtin.zeroCells (Value.int IntKind.i64 0).cells k).size=k:=fun k=>by rw [size_zeroCells,hzc]; simp
 have l2:=relEs_lens L
 have grown:∀ (cs:List Value)(u0:Value),cs.length=s1.length→relL w S s1.flatten cs→(∀ u ∈ cs,u.oneCell'=true)→(∀ e ∈ s1,e.length=1)→∀ (c0:Nat) (w':World) (t:TypeId) (C:Array Value),
   w'.os=w.os→w'.tape=w.tape→w'.output=w.output→w'.heap.size=w.heap.size + 1→(∀ k,k < w.heap.size→w'.heap[k]? = w.heap[k]?)→w'.heap[w.heap.size]? = some (.cells C t (0,0))→oneCells C →
   C.size=grownCap w (s1.length + v1.length) c0 t→(∀ (j:Nat)(u:Value),(cs.take ni ++ vs ++ cs.drop ni)[j]? = some u→C[j]? = some u) →
   ∃ S' g gps,Behind w S [f0,[b2]] ZRd [u0,.int .i64 ni,.slice (some ⟨b2,q2,none⟩) v1.length c2] (.os (s1.take ni ++ v1 ++ s1.drop ni) 1) [] (.slice (some ⟨w.heap.size,0,none⟩) (s1.length + v1.length) (grownCap w (s1.length + v1.length) c0 t)) w' S' g gps:=by
  intro cs u0 hcl hcr hco l1 c0 w' t C hos htp hout hsize hold hgC hoC hszC hcell
  have hge:=grownCap_ge w (s1.length + v1.length) c0 t
  have hgm:=grownCap_le_maxLen w (s1.length + v1.length) c0 t (by simp only [maxLen]; omega)
  have hk:Keep w S w' S:=⟨fun b hb=>hold b (hst b hb),fun _ h=>h⟩
  have:=ins_new (u0:=u0) (u1:=.int .i64 ni) (u2:=.slice (some ⟨b2,q2,none⟩) v1.length c2) (b2:=b2) (f0:=f0) (es':=s1.take ni ++ v1 ++ s1.drop ni) (c:=grownCap w (s1.length + v1.length) c0 t) hst hos htp hout hsize hold hgC hoC (by rw [hszC,Nat.mul_one]; exact Nat.le_refl _) (by rw [hlen]; exact hge) hgm
   (ins_rel hk hni l1 l2 hcl hvl hcr hvr hco hvo fun j u hj=>by rw [Nat.zero_add,cell_of_row w' _ j C t _ hgC]; exact hcell j u hj)
  rw [hlen] at this
  exact ⟨S,_,_,this⟩
 rcases o with ⟨rfl,h0,rfl⟩ | ⟨b,s,c,a,C,t,fr,rfl,ha,rfl,hle,hcm,hgC,hu,ho,hsz,hr⟩
 ·-- of nothing
  subst h0
  have:ni=0:=by simpa using hni
  subst this
  refine fin ((Any2.slices_Insert_int_end_grow Tryz.laysNm221 none 0 0 b2 q2 v1.length c2 [] vs w hm (Nat.le_refl _) (by omega) (by simpa using hbig) rfl hvl (fun _=>rfl) (fun a h=>by cases h) hvc hvo).mono ?_)
  rintro e w' ⟨rfl,rfl⟩
  refine ⟨_,rfl,?_⟩
  have:=grown [] (.slice none 0 0) rfl (by simp [relL]) (by simp) (by simp) 0 (w.drew.alloc (.cells (([] ++ vs).toArray ++ Builtin.zeroCells (Value.int .i64 0).cells (grownCap w (0 + v1.length) 0 (Tryz.laysNm221_ren.t 3) - (0 + v1.length))) (Tryz.laysNm221_ren.t 3))) (Tryz.laysNm221_ren.t 3) (([] ++ vs).toArray ++ Builtin.zeroCells (Value.int .i64 0).cells (grownCap w (0 + v1.length) 0 (Tryz.laysNm221_ren.t 3) - (0 + v1.length))) rfl rfl rfl (by show (w.heap.push _).size=_; simp) (fun k hk=>by show (w.heap.push _)[k]? = _; rw [Array.getElem?_push,if_neg (by omega)]) (by show (w.heap.push _)[w.heap.size]? = _; exact Array.getElem?_push_size) ?_ ?_ ?_
  ·exact this
  ·intro u hu'
   simp only [List.nil_append,Array.toList_append,List.mem_append] at hu'
   exact hu'.elim (hvo u) (hzo _ u)
  ·have hge:=grownCap_ge w (0 + v1.length) 0 (Tryz.laysNm221_ren.t 3)
   simp only [List.nil_append,Array.size_append,List.size_toArray,hvl,hzs,List.length_nil]
   omega
  ·intro j u hj
   simp only [List.take_nil,List.drop_nil,List.nil_append,List.append_nil] at hj
   rw [List.nil_append,Array.getElem?_append_left (by simpa using (List.getElem?_eq_some_iff.1 hj).1)]
   simpa using hj
 have hS:=hfp b (by simp)
 have hne:b2≠b:=by
  simp only [List.flatten_cons,List.flatten_nil,List.append_nil,List.singleton_append,List.nodup_cons,List.mem_singleton] at hnd
  exact fun e=>hnd.1 e.symm
 obtain ⟨cs,hcl,hcc,hco,hcr⟩:=relEs_flat hr
 rw [Nat.mul_one] at hcl
 have l1:=relEs_lens hr
 have hCc:∀ (j:Nat)(u:Value),cs[j]? = some u→C[s + j]? = some u:=fun j u hj=>by
  have:=hcc j u hj
  rwa [cell_of_row w b _ C t fr hgC] at this
 by_cases hroom:s1.length + v1.length≤c
 ·-- there is room
  have hA:a=⟨b,s,none⟩:=by rcases ha with h | h; (· omega); exact h
  subst hA
  have hsz':=hsz (by omega)
  rw [Nat.mul_one] at hsz'
  have hcell:∀ q,q < C.size→(w.cell? ⟨b,q,none⟩).isSome=true:=fun q hq=>by rw [cell_of_row w b q C t fr hgC]; simp [hq]
  have hfz:∀ q,q < C.size→w.frozen? ⟨b,q,none⟩=false:=fun q hq=>by
   exact plain_frozen hgC hu _
  have here:∀ (w':World) (C':Array Value),Upd w b (.cells C' t fr) w'→C'.size=C.size→oneCells C'→(∀ (j:Nat)(u:Value),(cs.take ni ++ vs ++ cs.drop ni)[j]? = some u→C'[s + j]? = some u) →
    ∃ S' g gps,Behind w S [[b],[b2]] ZRd [.slice (some ⟨b,s,none⟩) s1.length c,.int .i64 ni,.slice (some ⟨b2,q2,none⟩) v1.length c2] (.os (s1.take ni ++ v1 ++ s1.drop ni) 1) [] (.slice (some ⟨b,s,none⟩) (s1.length + v1.length) c) w' S' g gps:=by
   intro w' C' hupd hsC hoC hcl'
   have hk:Keep w S w' S:=⟨fun k hk=>hupd.other k (fun e=>hS.1 (e ▸ hk)),fun _ h=>h⟩
   have:=ins_here (u0:=.slice (some ⟨b,s,none⟩) s1.length c) (u1:=.int .i64 ni) (u2:=.slice (some ⟨b2,q2,none⟩) v1.length c2) (b2:=b2) (C:=C) (es:=s1) (es':=s1.take ni ++ v1 ++ s1.drop ni) (c:=c) (s:=s) hS hst hupd (unfrozen_size hu hsC) hoC (by rw [hsC,Nat.mul_one]; exact hsz') (by rw [hlen]; exact hroom) hcm
    (ins_rel hk hni l1 l2 hcl hvl hcr hvr hco hvo fun j u hj=>by rw [cell_of_row w' _ _ C' t fr hupd.here]; exact hcl' j u hj)
   rw [hlen] at this
   exact ⟨S,_,_,this⟩
  have M:c≤9223372036854775807:=by simpa only [maxLen] using hcm
  by_cases hend:ni=s1.length
  ·-- behind the last
   subst hend
   refine fin ((Any2.slices_Insert_int_end_room Tryz.laysNm221 b s s1.length c b2 q2 v1.length c2 vs w hm hroom M hvl (fun j hj=>hcell _ (by omega)) (fun j hj=>hfz _ (by omega)) hvc hvo).mono ?_)
   rintro e w' ⟨rfl,rfl⟩
   refine ⟨_,rfl,?_⟩
   obtain ⟨C',h1,h2,h3⟩:=setCells_upd vs (s + s1.length) C w hgC (by omega)
   refine here _ C' h1 h2 (fun u hu'=>?_) fun j u hj=>?_
   ·obtain ⟨q,hq⟩:=List.mem_iff_getElem?.1 hu'
    rw [Array.getElem?_toList,h3 q] at hq
    split at hq
    ·exact hvo u (List.mem_of_getElem? hq)
    ·exact ho u (List.mem_of_getElem? (by rw [Array.getElem?_toList]; exact hq))
   ·rw [h3]
    rcases ins_get (by omega) hj with ⟨q1,q2⟩ | ⟨q1,q2,q3⟩ | ⟨q1,q2⟩
    ·rw [if_neg (by omega)]; exact hCc j u q2
    ·rw [if_pos (by omega),show s + j - (s + s1.length)=j - s1.length by omega]; exact q3
    ·rw [← hcl,List.drop_length] at q2; simp at q2
  ·-- what stands from there on moves
   refine fin ((Any2.slices_Insert_int_shift Tryz.laysNm221 b s s1.length c ni b2 q2 v1.length c2 cs vs w (by omega) hm hroom M hne hcl hvl hcc (fun j hj=>hcell _ (by omega)) (fun j hj=>hfz _ (by omega)) hvc hco hvo t2 t C2.size C.size (by simp [World.shape?,H]) (by simp [World.shape?,hgC]) (by omega) ?_ ?_).mono ?_)
   ·exact plain_frozen H I _
   ·exact plain_frozen H I _
   rintro e w' ⟨rfl,rfl⟩
   refine ⟨_,rfl,?_⟩
   have hdl:(cs.drop ni).length=s1.length - ni:=by rw [List.length_drop,hcl]
   obtain ⟨C',h1,h2,h3⟩:=setCells_upd (cs.drop ni) (s + (ni + v1.length)) C w.drew hgC (by omega)
   obtain ⟨C'',k1,k2,k3⟩:=setCells_upd vs (s + ni) C' _ h1.here (by omega)
   have hw:Upd w b (.cells C'' t fr) ((w.drew.setCells b (s + (ni + v1.length)) (cs.drop ni)).setCells b (s + ni) vs):=by
    have:=h1.trans k1
    exact ⟨this.os,this.tape,this.output,this.size,this.other,this.here⟩
   refine here _ C'' hw (by omega) (fun u hu'=>?_) fun j u hj=>?_
   ·obtain ⟨q,hq⟩:=List.mem_iff_getElem?.1 hu'
    rw [Array.getElem?_toList,k3 q] at hq
    split at hq
    ·exact hvo u (List.mem_of_getElem? hq)
    ·rw [h3 q] at hq
     split at hq
     ·exact hco u (List.mem_of_mem_drop (List.mem_of_getElem? hq))
     ·exact ho u (List.mem_of_getElem? (by rw [Array.getElem?_toList]; exact hq))
   ·rw [k3]
    rcases ins_get (by omega) hj with ⟨q1,q2⟩ | ⟨q1,q2,q3⟩ | ⟨q1,q2⟩
    ·rw [if_neg (by omega),h3,if_neg (by omega)]; exact hCc j u q2
    ·rw [if_pos (by omega),show s + j - (s + ni)=j - ni by omega]; exact q3
    ·have:=(List.getElem?_eq_some_iff.1 q2).1
     rw [if_neg (by omega),h3,if_pos (by omega),show s + j - (s + (ni + v1.length))=j - (ni + vs.length) by omega]; exact q2
 ·-- there is none
  by_cases hend:ni=s1.length
  ·subst hend
   refine fin ((Any2.slices_Insert_int_end_grow Tryz.laysNm221 (some a) s1.length c b2 q2 v1.length c2 cs vs w hm hle (by omega) hbig hcl hvl (fun h=>by cases h) (fun a' h j u hj=>?_) hvc hvo).mono ?_)
   ·cases h
    rcases ha with h | h
    ·have:=(List.getElem?_eq_some_iff.1 hj).1; omega
    ·subst h
     rw [Addr.add_lit]
     exact hcc j u hj
   rintro e w' ⟨rfl,rfl⟩
   refine ⟨_,rfl,?_⟩
   refine grown cs _ hcl hcr hco l1 c _ (Tryz.laysNm221_ren.t 3) ((cs ++ vs).toArray ++ Builtin.zeroCells (Value.int .i64 0).cells (grownCap w (s1.length + v1.length) c (Tryz.laysNm221_ren.t 3) - (s1.length + v1.length))) rfl rfl rfl (by show (w.heap.push _).size=_; simp) (fun k hk=>by show (w.heap.push _)[k]? = _; rw [Array.getElem?_push,if_neg (by omega)]) (by show (w.heap.push _)[w.heap.size]? = _; exact Array.getElem?_push_size) ?_ ?_ ?_
   ·intro u hu'
    simp only [Array.toList_append,List.mem_append] at hu'
    rcases hu' with (hu' | hu') | hu'
    ·exact hco u hu'
    ·exact hvo u hu'
    ·exact hzo _ u hu'
   ·have hge:=grownCap_ge w (s1.length + v1.length) c (Tryz.laysNm221_ren.t 3)
    simp only [Array.size_append,List.size_toArray,List.length_append,hcl,hvl,hzs]
    omega
   ·intro j u hj
    rw [← hcl,List.take_length,List.drop_length,List.append_nil] at hj
    rw [Array.getElem?_append_left (by simpa using (List.getElem?_eq_some_iff.1 hj).1)]
    simpa using hj
  ·have hA:a=⟨b,s,none⟩:=by rcases ha with h | h; (· omega); exact h
   subst hA
   refine fin ((Any2.slices_Insert_int_grow Tryz.laysNm221 b s s1.length c ni b2 q2 v1.length c2 cs vs w (by omega) hm hle (by omega) hbig hcl hvl hcc hvc hco hvo).mono ?_)
   rintro e w' ⟨rfl,rfl⟩
   refine ⟨_,rfl,?_⟩
   have hge:=grownCap_ge w (s1.length + v1.length) c (Tryz.laysNm221_ren.t 3)
   have hdl:(cs.drop ni).length=s1.length - ni:=by rw [List.length_drop,hcl]
   generalize hX:((cs.take ni).toArray ++ Builtin.zeroCells (Value.int .i64 0).cells (s1.length + v1.length - ni) ++ Builtin.zeroCells (Value.int .i64 0).cells (grownCap w (s1.length + v1.length) c (Tryz.laysNm221_ren.t 3) - (s1.length + v1.length)))=X
   have hXs:X.size=grownCap w (s1.length + v1.length) c (Tryz.laysNm221_ren.t 3):=by
    rw [← hX]
    simp only [Array.size_append,List.size_toArray,List.length_take,hcl,hzs]
    omega
   have hXo:oneCells X:=by
    intro u hu'
    rw [← hX] at hu'
    simp only [Array.toList_append,List.mem_append] at hu'
    rcases hu' with (hu' | hu') | hu'
    ·exact hco u (List.mem_of_mem_take hu')
    ·exact hzo _ u hu'
    ·exact hzo _ u hu'
   have hXt:∀ j u,j < ni→cs[j]? = some u→X[j]? = some u:=by
    intro j u hj hc'
    rw [← hX,Array.append_assoc,Array.getElem?_append_left (by simp; omega)]
    simp [List.getElem?_take,hj,hc']
   have N:(w.alloc (.cells X (Tryz.laysNm221_ren.t 3))).drew.heap[w.heap.size]? = some (.cells X (Tryz.laysNm221_ren.t 3) (0,0)):=by show (w.heap.push _)[w.heap.size]? = _; simp
   obtain ⟨C',h1,h2,h3⟩:=setCells_upd vs ni X _ N (by omega)
   have O:((w.alloc (.cells X (Tryz.laysNm221_ren.t 3))).drew.setCells w.heap.size ni vs).drew.heap[w.heap.size]? = some (.cells C' (Tryz.laysNm221_ren.t 3) (0,0)):=h1.here
   obtain ⟨C'',k1,k2,k3⟩:=setCells_upd (cs.drop ni) (ni + v1.length) C' _ O (by omega)
   refine grown cs _ hcl hcr hco l1 c _ (Tryz.laysNm221_ren.t 3) C'' (k1.os.trans h1.os) (k1.tape.trans h1.tape) (k1.output.trans h1.output) ?_ (fun k hk=>?_) k1.here (fun u hu'=>?_) (by omega) fun j u hj=>?_
   ·refine k1.size.trans (h1.size.trans ?_)
    show (w.heap.push _).size=_
    simp
   ·refine (k1.other k (by omega)).trans ((h1.other k (by omega)).trans ?_)
    show (w.heap.push _)[k]? = _
    rw [Array.getElem?_push,if_neg (by omega)]
   ·obtain ⟨q,hq⟩:=List.mem_iff_getElem?.1 hu'
    rw [Array.getElem?_toList,k3 q] at hq
    split at hq
    ·exact hco u (List.mem_of_mem_drop (List.mem_of_getElem? hq))
    ·rw [h3 q] at hq
     split at hq
     ·exact hvo u (List.mem_of_getElem? hq)
     ·exact hXo u (List.mem_of_getElem? (by rw [Array.getElem?_toList]; exact hq))
   ·rw [k3]
    rcases ins_get (by omega) hj with ⟨q1,q2⟩ | ⟨q1,q2,q3⟩ | ⟨q1,q2⟩
    ·rw [if_neg (by omega),h3,if_neg (by omega)]; exact hXt j u q1 q2
    ·rw [if_neg (by omega),h3,if_pos (by omega)]; exact q3
    ·have:=(List.getElem?_eq_some_iff.1 q2).1
     rw [if_pos (by omega),show j - (ni + v1.length)=j - (ni + vs.length) by omega]; exact q2
theorem itoaQ_all:Zka Tryz.prog G0 166 itoaQ_C:=by
 intro w S ps us fps r outs hargs hnd hfp hst hgo hx
 obtain ⟨y,hy,hx⟩:=Zba hx
 cases hx
 change itoaQ_D ps=some y at hy
 unfold itoaQ_D at hy
 split at hy
 case h_2=>cases hy
 rename_i n
 unfold sItoaQ at hy
 cases hb:Nat.ble n.natAbs 9223372036854775807 with
 | false=>rw [hb] at hy; cases hy
 | true =>
  rw [hb] at hy
  cases hy
  have hle:=Nat.le_of_ble_eq_true hb
  have hin:inI n=true:=by
   unfold inI
   exact decide_eq_true (by omega)
  have hx':itoaS_C.F [PV.int .i64 n]=some (.str (text (dig n)),[]):=by
   show (sItoa n).bind _=_
   rw [show sItoa n=some (text (dig n)) from if_pos hin]
   rfl
  refine (itoaS_all w S [PV.int .i64 n] us fps _ _ hargs hnd hfp hst hgo hx').mono fun v w' ⟨S',g,gps,h⟩=>⟨S',g,gps,?_⟩
  exact ⟨h.os,h.tape,h.output,h.size,h.same,h.sub,h.stab,h.st,h.nodup,h.own,h.res⟩
end Go.Proofs.YtgpjfmihogaooaaGreatDoorV
namespace Go.Proofs.YtgpjfmihogaooaaGreatDoorV
open Go
set_option maxRecDepth 100000
theorem ZWI:Zka Tryz.prog G0 77 ZHw:=ZFF trivial
theorem Z2E:Zka Tryz.prog G0 51 Zfq:=ZOA (by simp only [Zyc,Zga,ZEa]; exact ⟨ZWI,Zva,trivial⟩) ZpG
theorem Z1I:Zka Tryz.prog G0 52 ZDw:=ZQF trivial ZhK
theorem Z0x:Zka Tryz.prog G0 15 ZOo:=ZFE (by simp only [Zuu,Zga,ZEa]; exact ⟨Z2E,Z1I,Zva,trivial⟩) ZqJ
theorem ZvC:Zka Tryz.prog G0 70 Zko:=ZgA (by simp only [Zze,Zga,ZEa]; exact ⟨Zva,trivial⟩) ZED
theorem ZKF:Zka Tryz.prog G0 29 ZQr:=ZGC (by simp only [ZJi,Zga,ZEa]; exact ⟨Zva,trivial⟩) ZyH
theorem ZFB:Zka Tryz.prog G0 71 ZXt:=Z2G trivial Z9K
theorem ZEL:Zka Tryz.prog G0 72 ZsJ:=ZQK trivial ZIL
theorem ZFK:Zka Tryz.prog G0 140 Z6y:=Z1G trivial ZcL
theorem ZaL:Zka Tryz.prog G0 66 Z2B:=ZRJ (by simp only [ZGo,Zga,ZEa]; exact ⟨ZFK,ZFB,Zva,trivial⟩) ZvL
theorem Z8z:Zka Tryz.prog G0 74 Z6q:=ZdF trivial Z4J
theorem ZnK:Zka Tryz.prog G0 73 Z9z:=ZiI (by simp only [Z7g,Zga,ZEa]; exact ⟨Z8z,Zva,trivial⟩) Z8K
theorem ZjK:Zka Tryz.prog G0 18 Zsy:=ZkI (by simp only [Zab,Zga,ZEa]; exact ⟨ZvC,ZKF,ZaL,ZnK,Z8z,ZEL,ZFB,Zva,Zva,trivial⟩) Z1K
theorem ZQI:Zka Tryz.prog G0 7 ZKw:=ZfG (by simp only [Z7w,Zga,ZEa]; exact ⟨Z0x,ZjK,trivial⟩) ZVJ
theorem Zux:Zka Tryz.prog G0 8 ZSo:=ZyD trivial
theorem Z1J:Zka Tryz.prog G0 33 Zuz:=ZzH trivial ZYK
theorem Z2K:Zka Tryz.prog G0 34 ZhC:=ZTI trivial ZoL
theorem ZUK:Zka Tryz.prog G0 35 ZyC:=ZGJ trivial
theorem ZnL:Zka Tryz.prog G0 36 ZbF:=ZDK trivial ZCL
theorem ZyL:Zka Tryz.prog G0 37 ZqG:=ZyK trivial
theorem ZkF:Zka Tryz.prog G0 9 ZSs:=Z9B (by simp only [ZKe,Zga,ZEa]; exact ⟨Z1J,Z2K,ZUK,ZnL,ZyL,trivial⟩) ZZH
theorem Zvg:Zka Tryz.prog G0 40 ZTe:=ZjC (by simp only [ZDs,Zga,ZEa]; exact ⟨Zva,trivial⟩)
theorem ZtI:Zka Tryz.prog G0 158 Z0t:=ZhE (by simp only [Z5t,Zga,ZEa]; exact ⟨Zvg,Zva,Zva,trivial⟩)
theorem ZQE:Zka Tryz.prog G0 101 Z6p:=ZLA (by simp only [Zpq,Zga,ZEa]; exact ⟨ZtI,Zva,Zva,Zva,trivial⟩)
theorem ZOH:Zka Tryz.prog G0 106 ZDu:=Z2D trivial
theorem Zww:Zka Tryz.prog G0 41 Z8r:=Z0I (by simp only [Z8C,Zga,ZEa]; exact ⟨ZOH,trivial⟩)
theorem Z2F:Zka Tryz.prog G0 103 Zsr:=ZXC (by simp only [ZGs,Zga,ZEa]; exact ⟨Zww,trivial⟩)
theorem ZSJ:Zka Tryz.prog G0 38 ZUw:=ZTF (by simp only [Zar,Zga,ZEa]; exact ⟨ZQE,Z2F,Zva,Zva,Zva,trivial⟩) ZuK
theorem Z0y:Zka Tryz.prog G0 104 ZNl:=ZLw trivial ZoA
theorem Z9J:Zka Tryz.prog G0 199 ZYz:=ZxH trivial
theorem ZaC:Zka Tryz.prog G0 151 Zvo:=Zqz (by simp only [Zho,Zga,ZEa]; exact ⟨Z9J,Zva,Zva,trivial⟩)
theorem ZbG:Zka Tryz.prog G0 105 Zyr:=ZMC (by simp only [ZHn,Zga,ZEa]; exact ⟨ZaC,Zva,trivial⟩) ZrH
theorem ZIA:Zka Tryz.prog G0 117 Zln:=Z3x (by simp only [ZDm,Zga,ZEa]; exact ⟨Zva,trivial⟩)
theorem ZLe:Zka Tryz.prog G0 177 Zxd:=ZSy trivial ZaD
theorem ZPE:Zka Tryz.prog G0 116 Zkq:=ZwA (by simp only [Zwl,Zga,ZEa]; exact ⟨ZIA,ZLe,trivial⟩) ZcG
theorem ZFC:Zka Tryz.prog G0 119 Zqo:=Z0z trivial ZfD
theorem ZHq:Zka Tryz.prog G0 118 ZAi:=Z2x (by simp only [ZNn,Zga,ZEa]; exact ⟨ZFC,Zva,trivial⟩)
theorem ZJw:Zka Tryz.prog G0 176 ZNi:=Ztu (by simp only [ZWf,Zga,ZEa]; exact ⟨ZHq,trivial⟩) Z5x
theorem Ztv:Zka Tryz.prog G0 115 Zpi:=Z2s (by simp only [Z2e,Zga,ZEa]; exact ⟨ZJw,ZHq,trivial⟩) ZIw
theorem ZYG:Zka Tryz.prog G0 179 Zwu:=ZGE trivial
theorem ZSt:Zka Tryz.prog G0 122 Zsl:=ZDA (by simp only [Ziq,Zga,ZEa]; exact ⟨ZYG,trivial⟩)
theorem Z3A:Zka Tryz.prog G0 121 ZKn:=Zmy (by simp only [Zpm,Zga,ZEa]; exact ⟨ZSt,Zva,Zva,trivial⟩)
theorem Zem:Zka Tryz.prog G0 223 Zmd:=ZBk (by simp only [Z8a,Zga,ZEa]; exact ⟨Z3A,trivial⟩) ZNm
theorem ZLs:Zka Tryz.prog G0 178 Z1f:=ZSp (by simp only [ZNb,Zga,ZEa]; exact ⟨Zem,trivial⟩) Zbt
theorem Z7q:Zka Tryz.prog G0 120 Zff:=Znp (by simp only [Zaf,Zga,ZEa]; exact ⟨ZLs,trivial⟩)
theorem ZcA:Zka Tryz.prog G0 181 ZLl:=Zow trivial ZTA
theorem Z8n:Zka Tryz.prog G0 182 Zfg:=ZLv (by simp only [Zgk,Zga,ZEa]; exact ⟨Zva,trivial⟩)
theorem Zku:Zka Tryz.prog G0 225 Zqh:=Z4r (by simp only [Zoe,Zga,ZEa]; exact ⟨Z8n,trivial⟩) Z9v
theorem Z4s:Zka Tryz.prog G0 180 ZUg:=ZTq (by simp only [Z3d,Zga,ZEa]; exact ⟨Zku,Z8n,trivial⟩) Zou
theorem Zay:Zka Tryz.prog G0 184 Z8j:=ZHv (by simp only [Zak,Zga,ZEa]; exact ⟨ZSt,Zva,Zva,trivial⟩)
theorem Zdl:Zka Tryz.prog G0 270 ZXc:=ZVj (by simp only [Z2a,Zga,ZEa]; exact ⟨Zay,trivial⟩) ZKl
theorem ZHp:Zka Tryz.prog G0 226 ZRe:=Z9n (by simp only [Zsb,Zga,ZEa]; exact ⟨Zdl,trivial⟩) Zfr
theorem ZBp:Zka Tryz.prog G0 183 Zne:=Z0n (by simp only [Zpe,Zga,ZEa]; exact ⟨ZHp,trivial⟩)
theorem ZOC:Zka Tryz.prog G0 123 Zno:=Z8y (by simp only [Zlo,Zga,ZEa]; exact ⟨ZcA,Z4s,ZBp,trivial⟩)
theorem Zzd:Zka Tryz.prog G0 46 Z0c:=ZUC (by simp only [ZCr,Zga,ZEa]; exact ⟨ZPE,Ztv,Z7q,ZOC,Zva,trivial⟩)
theorem Z0C:Zka Tryz.prog G0 186 Zzo:=Zpz (by simp only [Zao,Zga,ZEa]; exact ⟨Zva,trivial⟩)
theorem ZZu:Zka Tryz.prog G0 176 Zdh:=ZTr (by simp only [Zre,Zga,ZEa]; exact ⟨Z0C,trivial⟩) ZIv
theorem Z3s:Zka Tryz.prog G0 185 ZDg:=Zkr (by simp only [Zlg,Zga,ZEa]; exact ⟨ZZu,trivial⟩)
theorem ZeH:Zka Tryz.prog G0 124 Zqu:=ZnE (by simp only [Zfu,Zga,ZEa]; exact ⟨Z3s,Zva,Zva,trivial⟩)
theorem Zvv:Zka Tryz.prog G0 189 ZEm:=Z1B trivial
theorem ZBA:Zka Tryz.prog G0 188 Zun:=Z8x (by simp only [Z5m,Zga,ZEa]; exact ⟨Zvv,Zva,trivial⟩)
theorem ZBu:Zka Tryz.prog G0 225 Zoh:=Zus (by simp only [Zke,Zga,ZEa]; exact ⟨ZBA,trivial⟩) Zrv
theorem ZRq:Zka Tryz.prog G0 187 Zef:=Zwp (by simp only [Z8e,Zga,ZEa]; exact ⟨ZBu,trivial⟩)
theorem ZBF:Zka Tryz.prog G0 125 ZJr:=Z7C (by simp only [ZUr,Zga,ZEa]; exact ⟨ZRq,Zva,trivial⟩)
theorem ZJH:Zka Tryz.prog G0 155 ZAu:=ZFD (by simp only [Z0k,Zga,ZEa]; exact ⟨ZLe,Zva,trivial⟩) ZIJ
theorem ZDl:Zka Tryz.prog G0 167 ZAg:=ZEz trivial ZAD
theorem ZIg:Zka Tryz.prog G0 108 ZHe:=ZHC (by simp only [ZWm,Zga,ZEa]; exact ⟨ZDl,Zva,trivial⟩) ZxI
theorem ZVF:Zka Tryz.prog G0 126 ZNr:=Z8B (by simp only [ZOg,Zga,ZEa]; exact ⟨ZJH,ZIg,Zvv,Zva,Zva,trivial⟩) ZHH
theorem ZSz:Zka Tryz.prog G0 48 ZXq:=ZsF (by simp only [ZNw,Zga,ZEa]; exact ⟨Zzd,ZeH,ZBF,ZVF,Zva,trivial⟩)
theorem ZxE:Zka Tryz.prog G0 107 ZWp:=ZFA (by simp only [Z1p,Zga,ZEa]; exact ⟨itoaQ_all,trivial⟩)
theorem Zjz:Zka Tryz.prog G0 42 Znr:=ZMF (by simp only [ZPq,Zga,ZEa]; exact ⟨ZxE,trivial⟩) ZqK
theorem ZBD:Zka Tryz.prog G0 47 ZTw:=ZzJ (by simp only [ZuC,Zga,ZEa]; exact ⟨Zjz,trivial⟩)
theorem ZXF:Zka Tryz.prog G0 39 Zxs:=ZTC (by simp only [Zan,Zga,ZEa]; exact ⟨Z0y,Zww,ZbG,Zzd,ZBD,ZSz,Zva,trivial⟩) ZmI
theorem Zfy:Zka Tryz.prog G0 43 Zck:=Zcv (by simp only [Zgg,Zga,ZEa]; exact ⟨ZIg,Zva,trivial⟩) Zlz
theorem ZLB:Zka Tryz.prog G0 168 Zwt:=ZVG (by simp only [Zoy,Zga,ZEa]; exact ⟨Zva,trivial⟩)
theorem Zyy:Zka Tryz.prog G0 128 Z1q:=ZsG (by simp only [Zex,Zga,ZEa]; exact ⟨Zva,trivial⟩)
theorem ZQx:Zka Tryz.prog G0 109 ZKo:=ZHE (by simp only [Z8o,Zga,ZEa]; exact ⟨Zyy,ZLB,Zva,trivial⟩) ZHJ
theorem ZIH:Zka Tryz.prog G0 44 ZWu:=ZqE (by simp only [Z9o,Zga,ZEa]; exact ⟨ZQx,Zva,Zva,trivial⟩) ZoJ
theorem ZBi:Zka Tryz.prog G0 169 Zxf:=ZmA (by simp only [Zbq,Zga,ZEa]; exact ⟨Zva,trivial⟩)
theorem ZDq:Zka Tryz.prog G0 170 ZCi:=Z4x (by simp only [Zqn,Zga,ZEa]; exact ⟨ZIg,Zva,trivial⟩)
theorem Zll:Zka Tryz.prog G0 191 Z2h:=Z1E (by simp only [Z0o,Zga,ZEa]; exact ⟨Zva,trivial⟩) Z4I
theorem Z8v:Zka Tryz.prog G0 192 Zwn:=ZwC (by simp only [ZKm,Zga,ZEa]; exact ⟨Zva,trivial⟩) ZRH
theorem ZTt:Zka Tryz.prog G0 171 Zxl:=ZlA (by simp only [ZTp,Zga,ZEa]; exact ⟨Zll,Z8v,Zva,Zva,trivial⟩)
theorem ZXy:Zka Tryz.prog G0 172 Z5q:=ZfF (by simp only [ZCf,Zga,ZEa]; exact ⟨ZLe,Z5A,Zll,Zva,Zva,trivial⟩) ZcK
theorem Zhq:Zka Tryz.prog G0 174 ZVk:=ZGD (by simp only [ZIu,Zga,ZEa]; exact ⟨ZLe,Zva,trivial⟩)
theorem Zly:Zka Tryz.prog G0 190 Zhk:=Z3v (by simp only [Zbk,Zga,ZEa]; exact ⟨ZDl,trivial⟩)
theorem ZSF:Zka Tryz.prog G0 127 Ztr:=ZWC (by simp only [Z1m,Zga,ZEa]; exact ⟨ZLB,Zly,Zll,ZDl,Z8v,Zva,trivial⟩) ZeI
theorem ZgH:Zka Tryz.prog G0 49 Zbu:=ZqD (by simp only [Zwe,Zga,ZEa]; exact ⟨ZSF,Zyy,ZQx,Zva,trivial⟩) ZDJ
theorem ZJv:Zka Tryz.prog G0 12 ZGn:=ZAC (by simp only [Zpn,Zga,ZEa]; exact ⟨ZSz,ZgH,Zva,Zva,Zva,trivial⟩) ZuI
theorem ZFl:Zka Tryz.prog G0 173 ZTg:=ZRz (by simp only [ZCo,Zga,ZEa]; exact ⟨Zzd,ZJv,Zva,Zva,trivial⟩)
theorem ZbJ:Zka Tryz.prog G0 110 ZMw:=ZGF (by simp only [Zlw,Zga,ZEa]; exact ⟨ZBi,Zvg,ZDq,ZTt,ZXy,Zhq,ZFl,Zva,Zva,Zva,trivial⟩)
theorem ZMq:Zka Tryz.prog G0 222 Zsi:=Zcy trivial
theorem Zzu:Zka Tryz.prog G0 268 Zgh:=Zds (by simp only [Zje,Zga,ZEa]; exact ⟨ZMq,trivial⟩) ZAv
theorem Zct:Zka Tryz.prog G0 221 Zsg:=ZZq (by simp only [ZNd,Zga,ZEa]; exact ⟨Zzu,ZMq,trivial⟩) Z8u
theorem ZSv:Zka Tryz.prog G0 175 Zrm:=ZlC (by simp only [Zys,Zga,ZEa]; exact ⟨Zll,ZLe,Zct,Zva,Zva,trivial⟩)
theorem ZQJ:Zka Tryz.prog G0 111 ZAw:=ZaG (by simp only [ZCw,Zga,ZEa]; exact ⟨ZBi,ZIg,ZSv,Zhq,ZFl,Zva,Zva,Zva,trivial⟩)
theorem ZvD:Zka Tryz.prog G0 80 ZRp:=ZGA (by simp only [Zcq,Zga,ZEa]; exact ⟨Zzd,Zva,trivial⟩)
theorem ZCI:Zka Tryz.prog G0 112 Zjw:=ZJF (by simp only [Zmr,Zga,ZEa]; exact ⟨ZBi,Zvg,ZDq,ZTt,ZIg,ZSv,ZXy,Zhq,ZvD,ZFl,Zva,Zva,Zva,trivial⟩) ZWJ
theorem ZbH:Zka Tryz.prog G0 113 Zau:=ZlD (by simp only [Z6u,Zga,ZEa]; exact ⟨ZBi,Zzd,Zva,Zva,Zva,trivial⟩)
theorem ZyE:Zka Tryz.prog G0 114 ZJp:=ZrA (by simp only [ZLp,Zga,ZEa]; exact ⟨Zvg,Zzd,Zva,Zva,Zva,trivial⟩)
theorem ZaI:Zka Tryz.prog G0 45 Z0u:=Z7D (by simp only [ZKu,Zga,ZEa]; exact ⟨ZbJ,ZQJ,ZCI,ZbH,ZyE,Zva,Zva,Zva,trivial⟩)
theorem ZcB:Zka Tryz.prog G0 10 ZVt:=ZhI (by simp only [Zdz,Zga,ZEa]; exact ⟨ZSJ,ZXF,Zvg,Zww,Zjz,Zfy,ZIH,ZaI,Zzd,ZBD,Zva,Zva,Zva,trivial⟩) ZTK
theorem Z8t:Zka Tryz.prog G0 11 Z9g:=Zor trivial
theorem Z9H:Zka Tryz.prog G0 13 Zhu:=ZiE (by simp only [Z7o,Zga,ZEa]; exact ⟨Zux,Z0x,ZcB,trivial⟩) ZeJ
theorem ZOz:Zka Tryz.prog G0 3 ZEl:=Z5w (by simp only [Znh,Zga,ZEa]; exact ⟨ZQI,Zux,Z8t,ZcB,ZJv,Z9H,ZkF,trivial⟩) ZAA
end Go.Proofs.YtgpjfmihogaooaaGreatDoorV
namespace Go.Proofs.YtgpjfmihogaooaaGreatDoorV
open Go
set_option maxRecDepth 1000000
theorem Z0J (n:Int) {m:Int} (hm:0 < m) (hm':m < 9223372036854775808):Zib n m=some (n % m):=by
 unfold Zib Zbc
 have h1:¬ (m < 1):=by omega
 rw [decide_eq_false h1,cond_false]
 have h0:¬ (m=0):=by omega
 simp only [h0,if_false]
 have e:=Int.tmod_add_mul_tdiv n m
 have hs:=Int.tmod_lt_of_pos n hm
 have hs':=Int.lt_tmod_of_pos n hm
 by_cases hneg:Int.tmod n m < 0
 ·rw [decide_eq_true hneg,cond_true]
  rw [wrap_i64 (by omega) (by omega)]
  congr 1
  have:n=Int.tmod n m + m + m * (Int.tdiv n m - 1):=by rw [Int.mul_sub,Int.mul_one]; omega
  calc Int.tmod n m + m=(Int.tmod n m + m) % m:=(Int.emod_eq_of_lt (by omega) (by omega)).symm
   _=n % m:=by conv=>rhs; rw [this,Int.add_mul_emod_self_left]
 ·rw [decide_eq_false hneg,cond_false]
  congr 1
  calc Int.tmod n m=Int.tmod n m % m:=(Int.emod_eq_of_lt (by omega) (by omega)).symm
   _=n % m:=by conv=>rhs; rw [← e,Int.add_mul_emod_self_left]
theorem hand17_some:ZFd.isSome=true:=by kernel_rfl
theorem stack_some:Zub.isSome=true:=by kernel_rfl
noncomputable def H17:=ZFd.get hand17_some
noncomputable def S17:=Zub.get stack_some
theorem hand17:ZFd=some H17:=by kernel_rfl
theorem stack17:Zub=some S17:=by kernel_rfl
theorem errors_true (who:Int):Z4b who=some true:=by
 unfold Z4b
 rw [hand17,Option.bind_some,stack17,Option.bind_some,Option.bind_some]
 refine (congrArg (fun x=>Option.bind x _) (show _=some (Sum.inr (who,S17,S17,H17.1,H17.2.1,H17.2.2.1,H17.2.2.2.1,H17.2.2.2.2.1,H17.2.2.2.2.2.1,H17.2.2.2.2.2.2.1,H17.2.2.2.2.2.2.2.1,H17.2.2.2.2.2.2.2.2.1,H17.2.2.2.2.2.2.2.2.2.1,H17.2.2.2.2.2.2.2.2.2.2)) by kernel_rfl)).trans ?_
 rw [Option.bind_some]
 show Option.bind (Zib who 3) _=_
 rw [Z0J who (by omega) (by omega),Option.bind_some]
 have h1:=Int.emod_nonneg who (b:=3) (by omega)
 have h2:=Int.emod_lt_of_pos who (b:=3) (by omega)
 have h3:who % 3=0∨who % 3=1∨who % 3=2:=by omega
 rcases h3 with h3 | h3 | h3
 ·rw [h3]
  show (_:Option Bool)=some true
  kernel_rfl
 ·rw [h3]
  show (_:Option Bool)=some true
  kernel_rfl
 ·rw [h3]
  show (_:Option Bool)=some true
  kernel_rfl
end Go.Proofs.YtgpjfmihogaooaaGreatDoorV
namespace Go.Proofs.YtgpjfmihogaooaaGreatDoor.workErrors
open Go Go.ChangeShapes Go.WideShapes Go.ChangeAt Go.RowKit Go.Proofs.YtgpjfmihogaooaaGreatDoorV
theorem arg {a0:Int} (w0:(Lit.int .i64 a0).wf=true):ZEl.F [PV.int .i64 a0]=some (.bool true,[]):=by
 show Option.bind (Z4b a0) _=_
 rw [errors_true _]
 rfl
attribute [local irreducible] Value.okWide Zka Applies Calls GOk in
theorem contract (H:Type) (enc:TypeId × Value→H) (W:World) (base:Nat) (args:Array Value) (ds gs:List (DataW H)) (before:List MemPlace)
  (hval:∀ (j:Nat) t v,Tryz.f3.params[j]? = some t→args[j]? = some v→Value.okWide Tryz.prog W .any base t v)
  (hW:DataW.Whole enc Tryz.prog Tryz.f3.params.toList Rows.workErrorsSpec.vars false W args.toList ds gs before) (hL:laidMetH Tryz.prog Rows.workErrorsRow.laid W) (hsh:W.ShapedOpen Tryz.prog) :
  Calls Tryz.prog 3 args W fun e W'=>∃ v,e=.returned v∧Rows.workErrorsSpec.post enc Tryz.prog Tryz.f3 false true false false W args v W':=by
 have hW':=hW
 obtain ⟨p,q,hA0,hV,rfl,hfz,hnd⟩:=hW
 have hA:DataW.TrodAll enc Tryz.prog W 0 (fun _=>true) true Tryz.f3.params.toList args.toList ds p:=hA0
 rw [Tryz.params3] at hA hval
 obtain ⟨v0,vs0,d0,ds0,p0,q0,ha0,rfl,rfl,h0,r0⟩:=trodAll_cons hA
 obtain ⟨rfl,rfl,rfl⟩:=trodAll_nil r0
 obtain rfl:args=#[v0]:=by cases args; simp_all
 obtain ⟨rfl,rfl⟩:=trodVars_none hV
 obtain ⟨a0,rfl,rfl,rfl,w0⟩:=open_int (k:=.i64) Tryz.underlying3 (hval 0 _ _ rfl rfl) h0
 exact law_calls (n:=1) (t:=4) (ps:=[PV.int .i64 a0]) ZOz (by kernel_rfl) (by kernel_rfl) Tryz.func3 (by kernel_rfl) (by kernel_rfl) laidOut (by kernel_rfl) rfl (by kernel_rfl) Tryz.underlying4 rfl hW' (go_of hL hsh laid_ok) rfl
  (by simp only [relL]; exact ⟨_,_,rfl,(by simp only [rel]),rfl⟩) (arg w0)
set_option maxRecDepth 100000 in
theorem lifted (os:Os) (started:os.Started) (H:Type) (enc:TypeId × Value→H) (F:Stop.Interp) :
  ReturnsInHanded {} Tryz.checked os 3 .any ((OpenSpec.ofChange Rows.workErrorsSpec).preRow enc Tryz.prog Tryz.f3 Rows.workErrorsRow.domain false Rows.workErrorsRow.laid) (((OpenSpec.ofChange Rows.workErrorsSpec).at F).post enc Tryz.prog Tryz.f3 false true false false):=by
 obtain ⟨places,hx⟩:∃ places,DataW.whole enc Tryz.prog ((laidWorld os).forCall (fun _ _=>0) ⟨#[],#[.int .i64 0],[]⟩).memory Tryz.f3.params.toList Rows.workErrorsSpec.vars false (#[.int .i64 0]:Array Value).toList 8=some ([.lit (.int .i64 0)],[],places):=⟨[],by kernel_rfl⟩
 refine returnsInHanded_of_row (C:=Tryz.checked) (s:=OpenSpec.ofChange Rows.workErrorsSpec) own started (by kernel_rfl) Tryz.func3
  (witness_row_atRef (enc:=enc) (C:=Tryz.checked) false (laidWorld os) #[.int .i64 0] rfl (refs os _) (rests os _) (by kernel_rfl)
   (OpenSpec.preRow_of_cond 8 hx (by kernel_rfl) (fun k hk=>by cases hk) (by kernel_rfl) (laid_met os _))) ?_
 intro W base args ds gs before hval hW _ _ _ hL hsh _
 exact contract H enc W base args ds gs before hval hW hL hsh
theorem and_t {a b:Bool} (ha:a=true) (hb:b=true):(a && b)=true:=by rw [ha,hb]; rfl
set_option maxHeartbeats 0 in
theorem closed:joinedFacts Tryz.pinned.checked.prog 3 Tryz.f3 (OpenSpec.ofChange Rows.workErrorsSpec).bare Rows.workErrorsRow=true:=by
 unfold joinedFacts
 repeat' (with_reducible apply and_t)
 all_goals (as_aux_lemma=>kernel_rfl)
theorem said:Rows.WorkErrorsSaid :=
 OpenClaim.holds_of_cond 3 Tryz.f3 rfl rfl rfl rfl rfl rfl rfl ⟨rfl,rfl,rfl,rfl,rfl⟩ rfl rfl rfl rfl rfl (by kernel_rfl) Tryz.func3 closed
  (of_decide_eq_true (by kernel_rfl)) (by unfold Func.isWrapper; first | (rw [if_pos (by decide +kernel)]; kernel_rfl) | (rw [if_neg (by decide +kernel)]; exact ⟨rfl,rfl⟩))
  (fun os started H enc _ F=>by rw [OpenClaim.pre_eq_preRow]; exact lifted os started H enc F)
theorem plain (f:FuncId) (fn:Func) (hf:Tryz.pinned.checked.prog.funcNamed "drayman/draymanlaw17.WorkErrors" = some f) (hfn:Tryz.pinned.checked.prog.funcs[f]? = some fn) :
  true=Tryz.pinned.checked.prog.looks []∧∀ (j:Nat) t,fn.params[j]? = some t→Tryz.pinned.checked.prog.wantsStandIn t=false:=by
 obtain rfl:f=3:=Option.some.inj ((show Tryz.prog.funcNamed "drayman/draymanlaw17.WorkErrors" = some 3 by kernel_rfl).symm.trans hf) |>.symm
 obtain rfl:fn=Tryz.f3:=(Option.some.inj (Tryz.func3.symm.trans hfn)).symm
 have h:(Tryz.f3.params.toList.all fun t => !Tryz.prog.wantsStandIn t)=true:=by kernel_rfl
 refine ⟨by kernel_rfl,fun j t ht=>?_⟩
 have h1:=List.all_eq_true.1 h t (by have:=Array.mem_of_getElem? ht; exact Array.mem_toList_iff.2 this)
 exact (Bool.not_eq_true' _).mp h1
theorem proved:Rows.WorkErrorsCardSaid :=
 Claim7.holds_tied_plain_at .later [] _ _ _ _ said (fun _ h=>by cases h) (by kernel_rfl) (fun _ h=>by cases h) workErrors_row_tie rfl ⟨rfl,rfl⟩ (by kernel_rfl) rfl plain (by kernel_rfl)
end Go.Proofs.YtgpjfmihogaooaaGreatDoor.workErrors
