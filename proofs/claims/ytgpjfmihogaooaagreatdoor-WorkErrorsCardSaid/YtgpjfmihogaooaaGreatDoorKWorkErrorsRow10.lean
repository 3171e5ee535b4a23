/- Of this claim's texts what it needs, part 10. -/
import Derived.Test.YtgpjfmihogaooaaGreatDoorKWorkErrorsRow9
namespace Go.Proofs.YtgpjfmihogaooaaGreatDoorV
open Go
set_option maxRecDepth 100000
set_option linter.unusedVariables false
set_option linter.unusedSimpArgs false
noncomputable section
def ZWo {R:Type}:Nat→Cs→Int→(Unit→Option R)→Option R
 | 0,_,_,_=>none
 | n + 1,a,b,k0 =>
  k0 ()
def ZFn {R:Type} (n:Nat)(i1 i2 i3 i4 p5 p6 p7 p8 p9 a:Rs)(b d e f g i j l o q:Int)(k:Rs→Rs→Rs→ByteArray→Option R):Option R :=
 Option.bind (Zzh i1 i2 i3 i4 p5 p6 p7 p8 p9 a b d e f g i j l o q) fun t =>
 ZWo n [.int .i64 e,.int .i64 f,.int .i64 g,.int .i64 i,.int .i64 j,.int .i64 l,.int .i64 o,.int .i64 q] 0
  (fun (_:Unit) =>
   Option.bind (ZFi) fun u =>
   k u.1 u.2.1 u.2.2.1 u.2.2.2)
def ZjE (y:Rs × Rs × Rs × ByteArray):PV × Cs:=((PV.tuple [.agg [.fs y.1,.fs y.2.1,.fs y.2.2.1],.str y.2.2.2]),[])
def ZAs:Nat→Cs→Int→Option ((Unit))
 | 0,_,_=>none
 | n + 1,a,b =>
  some ()
theorem ZUG {R:Type} (n:Nat)(a:Cs)(b:Int)(k0:Unit→Option R):Tw (ZAs n a b) (ZWo n a b k0) (fun s=>match s with | _=>k0 ()):=by
 induction n generalizing a b with
 | zero=>exact Zwa
 | succ n ih =>
  unfold ZAs ZWo
  exact Zda rfl
def Zwh (i1 i2 i3 i4 p5 p6 p7 p8 p9 a:Rs)(b d e f g i j l o q:Int):Option (Rs × Rs × Rs × ByteArray) :=
 Option.bind (Zzh i1 i2 i3 i4 p5 p6 p7 p8 p9 a b d e f g i j l o q) fun t =>
 Option.bind (ZAs 9223372036854775808 [.int .i64 e,.int .i64 f,.int .i64 g,.int .i64 i,.int .i64 j,.int .i64 l,.int .i64 o,.int .i64 q] 0) fun s=>match s with
  | _ =>
   Option.bind (ZFi) fun u =>
   some (u.1,u.2.1,u.2.2.1,u.2.2.2)
theorem ZtK {R:Type} (i1 i2 i3 i4 p5 p6 p7 p8 p9 a:Rs)(b d e f g i j l o q:Int)(k:Rs→Rs→Rs→ByteArray→Option R):Tw (Zwh i1 i2 i3 i4 p5 p6 p7 p8 p9 a b d e f g i j l o q) (ZFn 9223372036854775808 i1 i2 i3 i4 p5 p6 p7 p8 p9 a b d e f g i j l o q k) (fun s=>match s with | (a0,a1,a2,a3)=>k a0 a1 a2 a3):=by
 unfold Zwh ZFn
 refine Zaa fun t _=>?_
 refine Zma (ZUG _ _ _ _) (fun s=>?_)
 rcases s with ⟨⟩
 ·refine Zaa fun u _=>?_
  exact Zda rfl
theorem ZuK:∀ (i1 i2 i3 i4 p5 p6 p7 p8 p9 a:Rs)(b d e f g i j l o q:Int)(y:Rs × Rs × Rs × ByteArray),Zwh i1 i2 i3 i4 p5 p6 p7 p8 p9 a b d e f g i j l o q=some y→∃ n,∀ (R:Type)(k:Rs→Rs→Rs→ByteArray→Option R),ZFn n i1 i2 i3 i4 p5 p6 p7 p8 p9 a b d e f g i j l o q k=k y.1 y.2.1 y.2.2.1 y.2.2.2:=fun i1 i2 i3 i4 p5 p6 p7 p8 p9 a b d e f g i j l o q y h=>⟨9223372036854775808,fun R k=>ZtK i1 i2 i3 i4 p5 p6 p7 p8 p9 a b d e f g i j l o q k y h⟩
def ZYw:Cs→Option (Rs × Rs × Rs × ByteArray)
 | [.agg [.fs i1,.fs i2,.fs i3,.fs i4],.agg [.fs p5,.fs p6,.fs p7,.fs p8,.fs p9,.fs a,.int .i64 b],.int .i64 d,.agg [.int .i64 e,.int .i64 f,.int .i64 g,.int .i64 i,.int .i64 j,.int .i64 l,.int .i64 o,.int .i64 q]]=>Zwh i1 i2 i3 i4 p5 p6 p7 p8 p9 a b d e f g i j l o q
 | _=>none
def Zar:List (Nat × Cal):=[(101,.ctr Z6p),(103,.ctr Zsr),(1000000004,ro_I),(1000000005,ro_I),(1000000007,ro_I)]
def ZUw:Ctr:=⟨[none,none,none,none],Rs × Rs × Rs × ByteArray,ZYw,ZjE,false,.d⟩
def Z1i:List (Nat × LC):=[(3,⟨[7,8,10,11],[],[],[],[7]⟩),
 (1003000,⟨[8,10],[],[],[],[]⟩)]
def Z3t:SP:=⟨Zea .undef [(7,(.val (.rp 0))),(8,(.ref 0 0)),(10,(.val .pnil)),(11,(.val (.int .i64)))] 0 33,[(.box [(.nil 3),(.nil 3),(.nil 3)])],[]⟩
def ZOy:Nat→Option SP
 | 3=>some Z3t
 | _=>none
def ZXx:Nat→Option SP
 | _=>none
def Zei (n:Nat)(ls:List Leaf)(R:Type)(k:Ex→St→Option R):Option R :=
 match ls with
 | [.cells a,.int b]=>ZWo n a b (fun _=>k (.exit 0) ⟨Zea .undef [(8,(TV.ref 0 0)),(10,(TV.val PV.pnil))] 0 33,[(Ob.box [(TV.nil 3),(TV.nil 3),(TV.nil 3)])],[]⟩)
 | _=>none
def ZvE (n key:Nat) (ls:List Leaf) (R:Type) (k:Ex→St→Option R):Option R :=
 match key with
 | 3=>Zei n ls R k
 | _=>none
def Z9C (n key:Nat) (ls:List Leaf) (R:Type) (k:Ex→St→Option R):Option R :=
 match key with
 | _=>none
def ZrB:Code→Bool:=fun _=>false
def ZME:Nat→Loops:=patL (Zsa Z1i) ZOy ZvE (ZCa Z1i) ZrB ZXx Z9C
theorem ZEF (n:Nat)(a:Cs)(b:Int)  (R:Type) (k:Ex→St→Option R) :
  Zza T G0 (Zja Zar) (Zsa Z1i) (ZME n) (Zia [1,1,0,1,0,0] (Zca Tryz.f38)) (Zoa Z3t [.cells a,.int b]) R k=Zei (n + 1) [.cells a,.int b] R k:=by kernel_rfl
theorem ZxK (n:Nat)(i1 i2 i3 i4 p5 p6 p7 p8 p9 a:Rs)(b d e f g i j l o q:Int) :
  funK T G0 (Zja Zar) (ZME n) .d false [none,none,none,none] (Zfa Tryz.f38) [.agg [.fs i1,.fs i2,.fs i3,.fs i4],.agg [.fs p5,.fs p6,.fs p7,.fs p8,.fs p9,.fs a,.int .i64 b],.int .i64 d,.agg [.int .i64 e,.int .i64 f,.int .i64 g,.int .i64 i,.int .i64 j,.int .i64 l,.int .i64 o,.int .i64 q]]=ZFn n  i1 i2 i3 i4 p5 p6 p7 p8 p9 a b d e f g i j l o q (fun a0 a1 a2 a3=>some (ZjE (a0,a1,a2,a3))):=by kernel_rfl
theorem ZyI {ps:Cs} {y:Rs × Rs × Rs × ByteArray} (h:ZYw ps=some y):∃ (i1:Rs) (i2:Rs) (i3:Rs) (i4:Rs) (p5:Rs) (p6:Rs) (p7:Rs) (p8:Rs) (p9:Rs) (a:Rs) (b:Int) (d:Int) (e:Int) (f:Int) (g:Int) (i:Int) (j:Int) (l:Int) (o:Int) (q:Int),ps=[.agg [.fs i1,.fs i2,.fs i3,.fs i4],.agg [.fs p5,.fs p6,.fs p7,.fs p8,.fs p9,.fs a,.int .i64 b],.int .i64 d,.agg [.int .i64 e,.int .i64 f,.int .i64 g,.int .i64 i,.int .i64 j,.int .i64 l,.int .i64 o,.int .i64 q]]:=by
 unfold ZYw at h
 split at h
 ·exact ⟨_,_,_,_,_,_,_,_,_,_,_,_,_,_,_,_,_,_,_,_,rfl⟩
 ·cases h
theorem ZBv:Zpa (Zca Tryz.f38)=[Zia [1,1,0,1,0,0] (Zca Tryz.f38)]:=by kernel_rfl
theorem ZTF (hΓ:Zga Tryz.prog G0 Zar) (hok:∀ (i1 i2 i3 i4 p5 p6 p7 p8 p9 a:Rs)(b d e f g i j l o q:Int)(y:Rs × Rs × Rs × ByteArray),Zwh i1 i2 i3 i4 p5 p6 p7 p8 p9 a b d e f g i j l o q=some y→∃ n,∀ (R:Type)(k:Rs→Rs→Rs→ByteArray→Option R),ZFn n  i1 i2 i3 i4 p5 p6 p7 p8 p9 a b d e f g i j l o q k=k y.1 y.2.1 y.2.2.1 y.2.2.2):Zka Tryz.prog G0 38 ZUw:=by
 refine ZHa mixed tOk (Zna hΓ) Tryz.func38 rfl rfl rfl rfl (F:=Zfa Tryz.f38) (ZBa Z1i) (pat:=ZOy) (L:=ZvE) (ZFa Z1i) (on:=ZrB) (patj:=ZXx) (J:=Z9C) (fun c hc ls R k=>?_) (fun c hc p hp m ls R k r h=>?_) (fun c hc p hp m ls R k r h=>?_) (fun ps x h=>?_)
 ·rw [show (Zfa Tryz.f38).code=Zca Tryz.f38 from rfl,ZBv] at hc
  simp only [List.mem_cons,List.not_mem_nil,or_false] at hc
  rcases hc with rfl
  ·show Zei 0 ls R k=none
   unfold Zei
   split
   ·rfl
   ·rfl
 ·rw [show (Zfa Tryz.f38).code=Zca Tryz.f38 from rfl,ZBv] at hc
  simp only [List.mem_cons,List.not_mem_nil,or_false] at hc
  rcases hc with rfl
  ·obtain rfl:Z3t=p:=Option.some.inj hp
   change Zei (m + 1) ls R k=some r at h
   have h':=h
   unfold Zei at h'
   split at h'
   ·exact (ZEF m _ _ R k).trans h
   ·cases h'
 ·cases (List.mem_filter.1 hc).2
 ·obtain ⟨y,hy,hx⟩:=Zba h
  cases hx
  obtain ⟨i1,i2,i3,i4,p5,p6,p7,p8,p9,a,b,d,e,f,g,i,j,l,o,q,rfl⟩:=ZyI hy
  obtain ⟨n,hn⟩:=hok i1 i2 i3 i4 p5 p6 p7 p8 p9 a b d e f g i j l o q y hy
  exact ⟨n,(ZxK n i1 i2 i3 i4 p5 p6 p7 p8 p9 a b d e f g i j l o q).trans (hn _ _)⟩
def ZXe {R:Type} (s1:Rs)(k:Rs→Rs→Rs→Bool→Option R):Option R :=
 cond ((s1.length:Int) ==(0:Int)) (
  k [] [] [] false) (
  (fun (z1:Option R) =>
   meet (
    z1) (
    z1)) (
   Option.bind (idx s1 (IntKind.i64.wrap ((s1.length:Int) - (1:Int)))) fun e2 =>
   if e2.length=5 then
    Option.bind (Zra e2 0 5) fun p3 =>
    none
   else none))
def Z1r (y:Rs × Rs × Rs × Bool):PV × Cs:=((PV.tuple [.agg [.fs y.1,.fs y.2.1,.fs y.2.2.1,PV.mnil,PV.mnil],.bool y.2.2.2]),[])
def ZCc (s1:Rs):Option (Rs × Rs × Rs × Bool) :=
 cond ((s1.length:Int) ==(0:Int)) (
  some ([],[],[],false)) (
  Option.bind (idx s1 (IntKind.i64.wrap ((s1.length:Int) - (1:Int)))) fun e2 =>
  if e2.length=5 then
   Option.bind (Zra e2 0 5) fun p3 =>
   none
  else none)
theorem ZxA {R:Type} (s1:Rs)(k:Rs→Rs→Rs→Bool→Option R):Tw (ZCc s1) (ZXe  s1 k) (fun s=>match s with | (a0,a1,a2,a3)=>k a0 a1 a2 a3):=by
 unfold ZCc ZXe
 refine Zha (fun _=>?_) (fun _=>?_)
 ·exact Zda rfl
 ·intro s hs
  obtain ⟨e2,h6,hs⟩:=Zba hs
  obtain ⟨h7,hs⟩:=ZSa hs
  obtain ⟨p3,h8,hs⟩:=Zba hs
  cases hs
theorem ZoA:∀ (s1:Rs)(y:Rs × Rs × Rs × Bool),ZCc s1=some y→∀ (R:Type)(k:Rs→Rs→Rs→Bool→Option R),ZXe  s1 k=k y.1 y.2.1 y.2.2.1 y.2.2.2:=fun s1 y h=>fun R k=>ZxA s1 k y h
def ZMl:Cs→Option (Rs × Rs × Rs × Bool)
 | [.rp [.fs s1] 0]=>ZCc s1
 | _=>none
def ZEs:List (Nat × Cal):=[]
def ZNl:Ctr:=⟨[none],Rs × Rs × Rs × Bool,ZMl,Z1r,false,.d⟩
theorem ZPA (s1:Rs) :
  funK T G0 (Zja ZEs) noL .d false [none] (Zfa Tryz.f104) [.rp [.fs s1] 0]=ZXe  s1 (fun a0 a1 a2 a3=>some (Z1r (a0,a1,a2,a3))):=by kernel_rfl
theorem ZPy {ps:Cs} {y:Rs × Rs × Rs × Bool} (h:ZMl ps=some y):∃ (s1:Rs),ps=[.rp [.fs s1] 0]:=by
 unfold ZMl at h
 split at h
 ·exact ⟨_,rfl⟩
 ·cases h
theorem ZLw (hΓ:Zga Tryz.prog G0 ZEs) (hok:∀ (s1:Rs)(y:Rs × Rs × Rs × Bool),ZCc s1=some y→∀ (R:Type)(k:Rs→Rs→Rs→Bool→Option R),ZXe  s1 k=k y.1 y.2.1 y.2.2.1 y.2.2.2):Zka Tryz.prog G0 104 ZNl:=by
 refine ZIa mixed tOk (Zna hΓ) Tryz.func104 rfl rfl rfl rfl (F:=Zfa Tryz.f104) (fun ps x h=>?_)
 obtain ⟨y,hy,hx⟩:=Zba h
 cases hx
 obtain ⟨s1,rfl⟩:=ZPy hy
 refine ⟨noL,ZKa _,(ZPA s1).trans (hok s1 y hy _ _)⟩
def ZFp {R:Type} (l1:Rs)(n2 a:Int)(k:Int→Option R):Option R :=
 cond (decide (n2 < a)) (
  k (-1)) (
  cond (decide (n2 ≥ (l1.length:Int))) (
   k (-1)) (
   Option.bind (idx l1 n2) fun e4 =>
   if e4.length=1 then
    Option.bind (e4[0]?) fun c5 =>
    Option.bind (PV.asI .i64 c5) fun n6 =>
    k n6
   else none))
def ZxG (y:Int):PV × Cs:=((PV.int .i64 y),[])
def ZUl (l1:Rs)(n2 a:Int):Option (Int):=ZFp l1 n2 a fun a0=>some a0
def Z2y:Cs→Option (Int)
 | [.fs l1,.int .i64 n2,.int .i64 a]=>ZUl l1 n2 a
 | _=>none
def ZNG:List (Nat × Cal):=[]
def ZYz:Ctr:=⟨[none,none,none],Int,Z2y,ZxG,true,.d⟩
theorem ZVK (l1:Rs)(n2 a:Int) :
  funK T G0 (Zja ZNG) noL .d true [none,none,none] (Zfa Tryz.f199) [.fs l1,.int .i64 n2,.int .i64 a]=ZFp  l1 n2 a (fun a0=>some (ZxG a0)):=by kernel_rfl
theorem ZsK {ps:Cs} {y:Int} (h:Z2y ps=some y):∃ (l1:Rs) (n2:Int) (a:Int),ps=[.fs l1,.int .i64 n2,.int .i64 a]:=by
 unfold Z2y at h
 split at h
 ·exact ⟨_,_,_,rfl⟩
 ·cases h
theorem ZrK {R:Type} (l1:Rs)(n2 a:Int)(k:Int→Option R):ZFp l1 n2 a k=Option.bind (ZFp l1 n2 a fun a0=>some a0) fun y=>k y:=by
 unfold ZFp
 first | rfl | simp only [Option.bind_assoc,Zya,Zxa,Option.bind_some,Option.bind_none]
theorem ZxH (hΓ:Zga Tryz.prog G0 ZNG):Zka Tryz.prog G0 199 ZYz:=by
 refine ZIa mixed tOk (Zna hΓ) Tryz.func199 rfl rfl rfl rfl (F:=Zfa Tryz.f199) (fun ps x h=>?_)
 obtain ⟨y,hy,hx⟩:=Zba h
 cases hx
 obtain ⟨l1,n2,a,rfl⟩:=ZsK hy
 have hy':ZUl l1 n2 a=some y:=hy
 refine ⟨noL,ZKa _,(ZVK l1 n2 a).trans ?_⟩
 unfold ZUl at hy'
 rw [ZrK,hy']
 rfl
def ZXg {R:Type} (p1 p2 p3 p4 p5 p6:Rs)(p7 k8 k9:Int)(k:Int→Option R):Option R :=
 cond (k8 ==(1:Int)) (
  Option.bind (ZUl p4 k9 0) fun a =>
  k a) (
  cond (k8 ==(2:Int)) (
   Option.bind (ZUl p5 k9 1) fun b =>
   k b) (
   cond (k8 ==(3:Int)) (
    Option.bind (ZUl p6 k9 0) fun d =>
    k d) (
    cond ((k8 ==(4:Int)) && ((k9 ==(0:Int)) && true)) (
     k p7) (
     k (-1)))))
def Zbv (y:Int):PV × Cs:=((PV.int .i64 y),[])
def Zbo (p1 p2 p3 p4 p5 p6:Rs)(p7 k8 k9:Int):Option (Int):=ZXg p1 p2 p3 p4 p5 p6 p7 k8 k9 fun a0=>some a0
def ZHj:Cs→Option (Int)
 | [.agg [.fs p1,.fs p2,.fs p3,.fs p4,.fs p5,.fs p6,.int .i64 p7],.agg [.int .i64 k8,.int .i64 k9]]=>Zbo p1 p2 p3 p4 p5 p6 p7 k8 k9
 | _=>none
def Zho:List (Nat × Cal):=[(199,.ctr ZYz),(1000000002,ro_I),(1000000003,ro_I)]
def Zvo:Ctr:=⟨[none,none],Int,ZHj,Zbv,true,.d⟩
theorem ZKE (p1 p2 p3 p4 p5 p6:Rs)(p7 k8 k9:Int) :
  funK T G0 (Zja Zho) noL .d true [none,none] (Zfa Tryz.f151) [.agg [.fs p1,.fs p2,.fs p3,.fs p4,.fs p5,.fs p6,.int .i64 p7],.agg [.int .i64 k8,.int .i64 k9]]=ZXg  p1 p2 p3 p4 p5 p6 p7 k8 k9 (fun a0=>some (Zbv a0)):=by kernel_rfl
theorem Z4B {ps:Cs} {y:Int} (h:ZHj ps=some y):∃ (p1:Rs) (p2:Rs) (p3:Rs) (p4:Rs) (p5:Rs) (p6:Rs) (p7:Int) (k8:Int) (k9:Int),ps=[.agg [.fs p1,.fs p2,.fs p3,.fs p4,.fs p5,.fs p6,.int .i64 p7],.agg [.int .i64 k8,.int .i64 k9]]:=by
 unfold ZHj at h
 split at h
 ·exact ⟨_,_,_,_,_,_,_,_,_,rfl⟩
 ·cases h
theorem ZLC {R:Type} (p1 p2 p3 p4 p5 p6:Rs)(p7 k8 k9:Int)(k:Int→Option R):ZXg p1 p2 p3 p4 p5 p6 p7 k8 k9 k=Option.bind (ZXg p1 p2 p3 p4 p5 p6 p7 k8 k9 fun a0=>some a0) fun y=>k y:=by
 unfold ZXg
 first | rfl | simp only [Option.bind_assoc,Zya,Zxa,Option.bind_some,Option.bind_none]
theorem Zqz (hΓ:Zga Tryz.prog G0 Zho):Zka Tryz.prog G0 151 Zvo:=by
 refine ZIa mixed tOk (Zna hΓ) Tryz.func151 rfl rfl rfl rfl (F:=Zfa Tryz.f151) (fun ps x h=>?_)
 obtain ⟨y,hy,hx⟩:=Zba h
 cases hx
 obtain ⟨p1,p2,p3,p4,p5,p6,p7,k8,k9,rfl⟩:=Z4B hy
 have hy':Zbo p1 p2 p3 p4 p5 p6 p7 k8 k9=some y:=hy
 refine ⟨noL,ZKa _,(ZKE p1 p2 p3 p4 p5 p6 p7 k8 k9).trans ?_⟩
 unfold Zbo at hy'
 rw [ZLC,hy']
 rfl
def Z2p {R:Type}:Nat→Cs→Kv→Cs→(Unit→Option R)→(Bool→Option R)→Option R
 | 0,_,_,_,_,_=>none
 | n + 1,a,b,d,k0,k1 =>
  cond (List.isEmpty b) (
   k0 ()) (
   pickL b fun e f =>
   if (PV.isAgg e.1 2)=true then
    Option.bind (Zra a 0 7) fun g =>
    Option.bind (ZHj [g,e.1]) fun i =>
    Option.bind (PV.asI .i64 e.2) fun j =>
    cond (i != j) (
     k1 false) (
     Z2p n a f [e.1,e.2] k0 k1)
   else none)
def ZKr {R:Type} (n:Nat)(p1 p2 p3 p4 p5 p6:Rs)(p7:Int)(v8:PV)(k:Bool→Option R):Option R :=
 Option.bind (PV.asMp v8) fun a =>
 Z2p n [.fs p1,.fs p2,.fs p3,.fs p4,.fs p5,.fs p6,.int .i64 p7] a []
  (fun (_:Unit) =>
   k true) k
def ZAz (y:Bool):PV × Cs:=((PV.bool y),[])
def Zqs:Cs→Option (Bool)
 | [.agg [.fs p1,.fs p2,.fs p3,.fs p4,.fs p5,.fs p6,.int .i64 p7],v8]=>sStill p1 p2 p3 p4 p5 p6 p7 v8
 | _=>none
def ZHn:List (Nat × Cal):=[(151,.ctr Zvo),(1000000002,ro_I)]
def Zyr:Ctr:=⟨[none,none],Bool,Zqs,ZAz,true,.d⟩
def ZZg:List (Nat × LC):=[(2,⟨[2,8],[],[],[],[2]⟩),
 (1002000,⟨[],[],[],[],[]⟩),
 (2000002,⟨[4],[],[],[],[]⟩)]
def Z9p:SP:=⟨Zea .undef [(2,(.val (.rp 0))),(8,(.it 0))] 0 19,[.mit],[]⟩
def Z6v:Nat→Option SP
 | 2=>some Z9p
 | _=>none
def ZIt:Nat→Option SP
 | _=>none
def Zvf (n:Nat)(ls:List Leaf)(R:Type)(k:Ex→St→Option R):Option R :=
 match ls with
 | [.cells a,.kvs b,.cells d]=>Z2p n a b d (fun _=>k (.exit 0) ⟨Zea .undef [] 0 19,[],[]⟩)
   (fun e=>k .ret ⟨Zea .undef [(4,(TV.val (PV.bool e)))] 0 19,[],[]⟩)
 | _=>none
def ZMy (n key:Nat) (ls:List Leaf) (R:Type) (k:Ex→St→Option R):Option R :=
 match key with
 | 2=>Zvf n ls R k
 | _=>none
def ZeA (n key:Nat) (ls:List Leaf) (R:Type) (k:Ex→St→Option R):Option R :=
 match key with
 | _=>none
def ZRx:Code→Bool:=fun _=>false
def ZBy:Nat→Loops:=patL (Zsa ZZg) Z6v ZMy (ZCa ZZg) ZRx ZIt ZeA
theorem ZCC (n:Nat)(a:Cs)(b:Kv)(d:Cs)  (R:Type) (k:Ex→St→Option R) :
  Zza T G0 (Zja ZHn) (Zsa ZZg) (ZBy n) (Zia [1,0,1,0,0] (Zca Tryz.f105)) (Zoa Z9p [.cells a,.kvs b,.cells d]) R k=Zvf (n + 1) [.cells a,.kvs b,.cells d] R k:=by kernel_rfl
theorem ZNH (n:Nat)(p1 p2 p3 p4 p5 p6:Rs)(p7:Int)(v8:PV) :
  funK T G0 (Zja ZHn) (ZBy n) .d true [none,none] (Zfa Tryz.f105) [.agg [.fs p1,.fs p2,.fs p3,.fs p4,.fs p5,.fs p6,.int .i64 p7],v8]=ZKr n  p1 p2 p3 p4 p5 p6 p7 v8 (fun a0=>some (ZAz a0)):=by kernel_rfl
theorem ZcF {ps:Cs} {y:Bool} (h:Zqs ps=some y):∃ (p1:Rs) (p2:Rs) (p3:Rs) (p4:Rs) (p5:Rs) (p6:Rs) (p7:Int) (v8:PV),ps=[.agg [.fs p1,.fs p2,.fs p3,.fs p4,.fs p5,.fs p6,.int .i64 p7],v8]:=by
 unfold Zqs at h
 split at h
 ·exact ⟨_,_,_,_,_,_,_,_,rfl⟩
 ·cases h
theorem ZBr:Zpa (Zca Tryz.f105)=[Zia [1,0,1,0,0] (Zca Tryz.f105)]:=by kernel_rfl
theorem ZMC (hΓ:Zga Tryz.prog G0 ZHn) (hok:∀ (p1 p2 p3 p4 p5 p6:Rs)(p7:Int)(v8:PV)(y:Bool),sStill p1 p2 p3 p4 p5 p6 p7 v8=some y→∃ n,∀ (R:Type)(k:Bool→Option R),ZKr n  p1 p2 p3 p4 p5 p6 p7 v8 k=k y):Zka Tryz.prog G0 105 Zyr:=by
 refine ZHa mixed tOk (Zna hΓ) Tryz.func105 rfl rfl rfl rfl (F:=Zfa Tryz.f105) (ZBa ZZg) (pat:=Z6v) (L:=ZMy) (ZFa ZZg) (on:=ZRx) (patj:=ZIt) (J:=ZeA) (fun c hc ls R k=>?_) (fun c hc p hp m ls R k r h=>?_) (fun c hc p hp m ls R k r h=>?_) (fun ps x h=>?_)
 ·rw [show (Zfa Tryz.f105).code=Zca Tryz.f105 from rfl,ZBr] at hc
  simp only [List.mem_cons,List.not_mem_nil,or_false] at hc
  rcases hc with rfl
  ·show Zvf 0 ls R k=none
   unfold Zvf
   split
   ·rfl
   ·rfl
 ·rw [show (Zfa Tryz.f105).code=Zca Tryz.f105 from rfl,ZBr] at hc
  simp only [List.mem_cons,List.not_mem_nil,or_false] at hc
  rcases hc with rfl
  ·obtain rfl:Z9p=p:=Option.some.inj hp
   change Zvf (m + 1) ls R k=some r at h
   have h':=h
   unfold Zvf at h'
   split at h'
   ·exact (ZCC m _ _ _ R k).trans h
   ·cases h'
 ·cases (List.mem_filter.1 hc).2
 ·obtain ⟨y,hy,hx⟩:=Zba h
  cases hx
  obtain ⟨p1,p2,p3,p4,p5,p6,p7,v8,rfl⟩:=ZcF hy
  obtain ⟨n,hn⟩:=hok p1 p2 p3 p4 p5 p6 p7 v8 y hy
  exact ⟨n,(ZNH n p1 p2 p3 p4 p5 p6 p7 v8).trans (hn _ _)⟩
def ZOf {R:Type} (t1:Int)(t2 t3:Rs)(k:Int→Rs→Rs→Option R):Option R :=
 k t1 t2 t3
def Zpt (y:Int × Rs × Rs):PV × Cs:=((PV.agg [.int .i64 y.1,.fs y.2.1,.fs y.2.2]),[])
def ZOm (t1:Int)(t2 t3:Rs):Option (Int × Rs × Rs):=ZOf t1 t2 t3 fun a0 a1 a2=>some (a0,a1,a2)
def ZFf:Cs→Option (Int × Rs × Rs)
 | [.agg [.int .i64 t1,.fs t2,.fs t3]]=>ZOm t1 t2 t3
 | _=>none
def ZDm:List (Nat × Cal):=[(1000000001,ro_I)]
def Zln:Ctr:=⟨[none],Int × Rs × Rs,ZFf,Zpt,false,.d⟩
theorem Z2C (t1:Int)(t2 t3:Rs) :
  funK T G0 (Zja ZDm) noL .d false [none] (Zfa Tryz.f117) [.agg [.int .i64 t1,.fs t2,.fs t3]]=ZOf  t1 t2 t3 (fun a0 a1 a2=>some (Zpt (a0,a1,a2))):=by kernel_rfl
theorem ZWA {ps:Cs} {y:Int × Rs × Rs} (h:ZFf ps=some y):∃ (t1:Int) (t2:Rs) (t3:Rs),ps=[.agg [.int .i64 t1,.fs t2,.fs t3]]:=by
 unfold ZFf at h
 split at h
 ·exact ⟨_,_,_,rfl⟩
 ·cases h
theorem ZHA {R:Type} (t1:Int)(t2 t3:Rs)(k:Int→Rs→Rs→Option R):ZOf t1 t2 t3 k=Option.bind (ZOf t1 t2 t3 fun a0 a1 a2=>some (a0,a1,a2)) fun y=>k y.1 y.2.1 y.2.2:=by
 unfold ZOf
 first | rfl | simp only [Option.bind_assoc,Zya,Zxa,Option.bind_some,Option.bind_none]
theorem Z3x (hΓ:Zga Tryz.prog G0 ZDm):Zka Tryz.prog G0 117 Zln:=by
 refine ZIa mixed tOk (Zna hΓ) Tryz.func117 rfl rfl rfl rfl (F:=Zfa Tryz.f117) (fun ps x h=>?_)
 obtain ⟨y,hy,hx⟩:=Zba h
 cases hx
 obtain ⟨t1,t2,t3,rfl⟩:=ZWA hy
 have hy':ZOm t1 t2 t3=some y:=hy
 refine ⟨noL,ZKa _,(Z2C t1 t2 t3).trans ?_⟩
 unfold ZOm at hy'
 rw [ZHA,hy']
 rfl
def ZYg {R:Type} (s1:Rs)(k:Rs→Option R):Option R :=
 cond (List.isEmpty s1) (
  meet (
   k []) (
   if ZJa 1 s1=true then
    if (([]:Rs).length + s1.length) * 8≤Zla then
     k (([]:Rs) ++ s1)
    else none
   else none)) (
  if ZJa 1 s1=true then
   if (([]:Rs).length + s1.length) * 8≤Zla then
    k (([]:Rs) ++ s1)
   else none
  else none)
def Zfw (y:Rs):PV × Cs:=((PV.os y 1),[])
def Zro:Cs→Option (Rs)
 | [.fs s1]=>ZOa 1 8 s1
 | _=>none
def Z2v:List (Nat × Cal):=[]
def Zxd:Ctr:=⟨[none],Rs,Zro,Zfw,false,.s⟩
theorem ZwE (s1:Rs) :
  funK T G0 (Zja Z2v) noL .s false [none] (Zfa Tryz.f177) [.fs s1]=ZYg  s1 (fun a0=>some (Zfw a0)):=by kernel_rfl
theorem ZzC {ps:Cs} {y:Rs} (h:Zro ps=some y):∃ (s1:Rs),ps=[.fs s1]:=by
 unfold Zro at h
 split at h
 ·exact ⟨_,rfl⟩
 ·cases h
theorem ZSy (hΓ:Zga Tryz.prog G0 Z2v) (hok:∀ (s1 y:Rs),ZOa 1 8 s1=some y→∀ (R:Type)(k:Rs→Option R),ZYg  s1 k=k y):Zka Tryz.prog G0 177 Zxd:=by
 refine ZIa mixed tOk (Zna hΓ) Tryz.func177 rfl rfl rfl rfl (F:=Zfa Tryz.f177) (fun ps x h=>?_)
 obtain ⟨y,hy,hx⟩:=Zba h
 cases hx
 obtain ⟨s1,rfl⟩:=ZzC hy
 refine ⟨noL,ZKa _,(ZwE s1).trans (hok s1 y hy _ _)⟩
theorem ZaD:∀ (s y:Rs),ZOa 1 8 s=some y→∀ (R:Type)(k:Rs→Option R),ZYg s k=k y:=by
 intro s y h R k
 unfold ZOa at h
 split at h
 ·rename_i hh
  cases h
  cases s with
  | nil=>simp [ZYg,ZJa,Zla,ZGa]
  | cons a l =>
   unfold ZYg
   rw [List.isEmpty_cons,cond_false,if_pos hh.1,if_pos (by simpa [Zla] using hh.2)]
   rfl
 ·cases h
def Zyd {R:Type}:Nat→Rs→Int→Int→Rs→(Rs→Option R)→Option R
 | 0,_,_,_,_,_=>none
 | n + 1,a,i4,i5,b,k0 =>
  cond (decide (i5 < i4)) (
   Option.bind (idx a i5) fun e7 =>
   if e7.length=3 then
    Option.bind (Zra e7 0 3) fun p8 =>
    if (PV.isAgg p8 3)=true then
     Option.bind (ZFf [p8]) fun y9 =>
     (fun (z1 z2:Option R) =>
      meet (
       meet (
        meet (
         z1) (
         z1)) (
        z1)) (
       meet (
        meet (
         meet (
          z1) (
          z1)) (
         meet (
          Option.bind (ZOa 1 8 y9.2.1) fun d =>
          (fun (z3:Option R) =>
           meet (
            z3) (
            meet (
             z3) (
             z3))) (
           Option.bind (ZOa 1 8 y9.2.2) fun e =>
           if (b.length + ([[.int .i64 y9.1,.fs d,.fs e]]:Rs).length) * 56≤Zla then
            Zyd n a i4 (IntKind.i64.wrap (i5 + (1:Int))) (b ++ [[.int .i64 y9.1,.fs d,.fs e]]) k0
           else none)) (
          meet (
           z1) (
           z2)))) (
        meet (
         z1) (
         meet (
          z1) (
          z2))))) (
      Option.bind (ZOa 1 8 y9.2.1) fun f =>
      Option.bind (ZOa 1 8 y9.2.2) fun g =>
      if (b.length + ([[.int .i64 y9.1,.fs f,.fs g]]:Rs).length) * 56≤Zla then
       Zyd n a i4 (IntKind.i64.wrap (i5 + (1:Int))) (b ++ [[.int .i64 y9.1,.fs f,.fs g]]) k0
      else none) (
      Option.bind (ZOa 1 8 y9.2.1) fun i =>
      (fun (z4:Option R) =>
       meet (
        z4) (
        z4)) (
       Option.bind (ZOa 1 8 y9.2.2) fun j =>
       if (b.length + ([[.int .i64 y9.1,.fs i,.fs j]]:Rs).length) * 56≤Zla then
        Zyd n a i4 (IntKind.i64.wrap (i5 + (1:Int))) (b ++ [[.int .i64 y9.1,.fs i,.fs j]]) k0
       else none))
    else none
   else none) (
   k0 b)
def ZXh {R:Type} (n:Nat)(l1:Rs)(k:Rs→Option R):Option R :=
 Zyd n l1 (l1.length:Int) 0 [] k
def ZKx (y:Rs):PV × Cs:=((PV.os y 3),[])
def Zwi:Nat→Rs→Int→Int→Rs→Option ((Rs))
 | 0,_,_,_,_=>none
 | n + 1,a,i4,i5,b =>
  cond (decide (i5 < i4)) (
   Option.bind (idx a i5) fun e7 =>
   if e7.length=3 then
    Option.bind (Zra e7 0 3) fun p8 =>
    if (PV.isAgg p8 3)=true then
     Option.bind (ZFf [p8]) fun y9 =>
     Option.bind (ZOa 1 8 y9.2.1) fun d =>
     Option.bind (ZOa 1 8 y9.2.2) fun e =>
     if (b.length + ([[.int .i64 y9.1,.fs d,.fs e]]:Rs).length) * 56≤Zla then
      Zwi n a i4 (IntKind.i64.wrap (i5 + (1:Int))) (b ++ [[.int .i64 y9.1,.fs d,.fs e]])
     else none
    else none
   else none) (
   some b)
theorem Z5B {R:Type} (n:Nat)(a:Rs)(i4 i5:Int)(b:Rs)(k0:Rs→Option R):Tw (Zwi n a i4 i5 b) (Zyd n a i4 i5 b k0) (fun s=>match s with | a0=>k0 a0):=by
 induction n generalizing a i4 i5 b with
 | zero=>exact Zwa
 | succ n ih =>
  unfold Zwi Zyd
  refine Zha (fun _=>?_) (fun _=>?_)
  ·refine Zaa fun e7 _=>?_
   refine Zqa fun _=>?_
   refine Zaa fun p8 _=>?_
   refine Zqa fun _=>?_
   refine Zaa fun y9 _=>?_
   intro s hs
   obtain ⟨d,e,hs⟩:=Zba hs
   obtain ⟨f,g,hs⟩:=Zba hs
   obtain ⟨i,hs⟩:=ZSa hs
   have j:=ih _ _ _ _ s hs
   simp only [e,g,i,j,Option.bind_some,cond_true,cond_false,if_true,if_false,ite_true,ite_false,ZGa,and_self,true_and,and_true,eq_self,not_true_eq_false,not_false_eq_true,Bool.false_eq_true,reduceCtorEq]
  ·exact Zda rfl
def Znf (l1:Rs):Option (Rs) :=
 Option.bind (Zwi 9223372036854775808 l1 (l1.length:Int) 0 []) fun s=>match s with
  | a =>
   some a
theorem ZIF {R:Type} (l1:Rs)(k:Rs→Option R):Tw (Znf l1) (ZXh 9223372036854775808 l1 k) (fun s=>match s with | a0=>k a0):=by
 unfold Znf ZXh
 refine Zma (Z5B _ _ _ _ _ _) (fun s=>?_)
 rcases s with a
 ·exact Zda rfl
theorem ZcG:∀ (l1 y:Rs),Znf l1=some y→∃ n,∀ (R:Type)(k:Rs→Option R),ZXh n l1 k=k y:=fun l1 y h=>⟨9223372036854775808,fun R k=>ZIF l1 k y h⟩
def ZNp:Cs→Option (Rs)
 | [.fs l1,.fn (Fn.func 117) []]=>Znf l1
 | _=>none
def Zwl:List (Nat × Cal):=[(117,.ctr Zln),(177,.ctr Zxd)]
def Zkq:Ctr:=⟨[none,none],Rs,ZNp,ZKx,false,.s⟩
def ZLf:List (Nat × LC):=[(3,⟨[1,5,8,9,10],[5],[],[],[]⟩),
 (1003000,⟨[5],[],[],[],[]⟩)]
def Zxo:SP:=⟨Zea .undef [(1,(.val (.fn 117 []))),(5,(.ow 0)),(8,(.val .fs)),(9,(.val (.int .i64))),(10,(.val (.int .i64)))] 0 31,[(.row 3)],[]⟩
def ZLt:Nat→Option SP
 | 3=>some Zxo
 | _=>none
def Zrs:Nat→Option SP
 | _=>none
def ZEe (n:Nat)(ls:List Leaf)(R:Type)(k:Ex→St→Option R):Option R :=
 match ls with
 | [.rows a,.int i4,.int i5,.rows b]=>Zyd n a i4 i5 b (fun d=>k (.exit 0) ⟨Zea .undef [(5,(TV.ow 0))] 0 31,[(Ob.row d 3)],[]⟩)
 | _=>none
def Zpx (n key:Nat) (ls:List Leaf) (R:Type) (k:Ex→St→Option R):Option R :=
 match key with
 | 3=>ZEe n ls R k
 | _=>none
def ZPx (n key:Nat) (ls:List Leaf) (R:Type) (k:Ex→St→Option R):Option R :=
 match key with
 | _=>none
def Zjv:Code→Bool:=fun _=>false
def Zyx:Nat→Loops:=patL (Zsa ZLf) ZLt Zpx (ZCa ZLf) Zjv Zrs ZPx
theorem ZVA (n:Nat)(a:Rs)(i4 i5:Int)(b:Rs)  (R:Type) (k:Ex→St→Option R) :
  Zza T G0 (Zja Zwl) (Zsa ZLf) (Zyx n) (Zia [1,1,0,1,0,0] (Zca Tryz.f116)) (Zoa Zxo [.rows a,.int i4,.int i5,.rows b]) R k=ZEe (n + 1) [.rows a,.int i4,.int i5,.rows b] R k:=by kernel_rfl
theorem ZtF (n:Nat)(l1:Rs) :
  funK T G0 (Zja Zwl) (Zyx n) .s false [none,none] (Zfa Tryz.f116) [.fs l1,.fn (Fn.func 117) []]=ZXh n  l1 (fun a0=>some (ZKx a0)):=by kernel_rfl
theorem ZMD {ps:Cs} {y:Rs} (h:ZNp ps=some y):∃ (l1:Rs),ps=[.fs l1,.fn (Fn.func 117) []]:=by
 unfold ZNp at h
 split at h
 ·exact ⟨_,rfl⟩
 ·cases h
theorem ZKq:Zpa (Zca Tryz.f116)=[Zia [1,1,0,1,0,0] (Zca Tryz.f116)]:=by kernel_rfl
theorem ZwA (hΓ:Zga Tryz.prog G0 Zwl) (hok:∀ (l1 y:Rs),Znf l1=some y→∃ n,∀ (R:Type)(k:Rs→Option R),ZXh n  l1 k=k y):Zka Tryz.prog G0 116 Zkq:=by
 refine ZHa mixed tOk (Zna hΓ) Tryz.func116 rfl rfl rfl rfl (F:=Zfa Tryz.f116) (ZBa ZLf) (pat:=ZLt) (L:=Zpx) (ZFa ZLf) (on:=Zjv) (patj:=Zrs) (J:=ZPx) (fun c hc ls R k=>?_) (fun c hc p hp m ls R k r h=>?_) (fun c hc p hp m ls R k r h=>?_) (fun ps x h=>?_)
 ·rw [show (Zfa Tryz.f116).code=Zca Tryz.f116 from rfl,ZKq] at hc
  simp only [List.mem_cons,List.not_mem_nil,or_false] at hc
  rcases hc with rfl
  ·show ZEe 0 ls R k=none
   unfold ZEe
   split
   ·rfl
   ·rfl
 ·rw [show (Zfa Tryz.f116).code=Zca Tryz.f116 from rfl,ZKq] at hc
  simp only [List.mem_cons,List.not_mem_nil,or_false] at hc
  rcases hc with rfl
  ·obtain rfl:Zxo=p:=Option.some.inj hp
   change ZEe (m + 1) ls R k=some r at h
   have h':=h
   unfold ZEe at h'
   split at h'
   ·exact (ZVA m _ _ _ _ R k).trans h
   ·cases h'
 ·cases (List.mem_filter.1 hc).2
 ·obtain ⟨y,hy,hx⟩:=Zba h
  cases hx
  obtain ⟨l1,rfl⟩:=ZMD hy
  obtain ⟨n,hn⟩:=hok l1 y hy
  exact ⟨n,(ZtF n l1).trans (hn _ _)⟩
def ZPf {R:Type}:Nat→Rs→Rs→Int→Int→(Bool→Option R)→(Unit→Option R)→Option R
 | 0,_,_,_,_,_,_=>none
 | n + 1,s4,s5,i6,i7,k0,k1 =>
  cond (decide (i7 < i6)) (
   Option.bind (idx s4 i7) fun e8 =>
   if e8.length=1 then
    Option.bind (e8[0]?) fun c9 =>
    Option.bind (PV.asI .i64 c9) fun a =>
    Option.bind (idx s5 i7) fun b =>
    if b.length=1 then
     Option.bind (b[0]?) fun d =>
     Option.bind (PV.asI .i64 d) fun e =>
     cond (a != e) (
      k0 false) (
      ZPf n s4 s5 i6 (IntKind.i64.wrap (i7 + (1:Int))) k0 k1)
    else none
   else none) (
   k1 ())
def ZWg {R:Type} (n:Nat)(s1 s2:Rs)(k:Bool→Option R):Option R :=
 cond ((s1.length:Int) !=(s2.length:Int)) (
  k false) (
  ZPf n s1 s2 (s1.length:Int) 0 k
   (fun (_:Unit) =>
    k true))
def Zqv (y:Bool):PV × Cs:=((PV.bool y),[])
def Zeh:Nat→Rs→Rs→Int→Int→Option ((Bool) ⊕ (Unit))
 | 0,_,_,_,_=>none
 | n + 1,s4,s5,i6,i7 =>
  cond (decide (i7 < i6)) (
   Option.bind (idx s4 i7) fun e8 =>
   if e8.length=1 then
    Option.bind (e8[0]?) fun c9 =>
    Option.bind (PV.asI .i64 c9) fun a =>
    Option.bind (idx s5 i7) fun b =>
    if b.length=1 then
     Option.bind (b[0]?) fun d =>
     Option.bind (PV.asI .i64 d) fun e =>
     cond (a != e) (
      some (Sum.inl false)) (
      Zeh n s4 s5 i6 (IntKind.i64.wrap (i7 + (1:Int))))
    else none
   else none) (
   some (Sum.inr ()))
theorem Z0A {R:Type} (n:Nat)(s4 s5:Rs)(i6 i7:Int)(k0:Bool→Option R)(k1:Unit→Option R):Tw (Zeh n s4 s5 i6 i7) (ZPf n s4 s5 i6 i7 k0 k1) (fun s=>match s with | (Sum.inl a0)=>k0 a0 | (Sum.inr _)=>k1 ()):=by
 induction n generalizing s4 s5 i6 i7 with
 | zero=>exact Zwa
 | succ n ih =>
  unfold Zeh ZPf
  refine Zha (fun _=>?_) (fun _=>?_)
  ·refine Zaa fun e8 _=>?_
   refine Zqa fun _=>?_
   refine Zaa fun c9 _=>?_
   refine Zaa fun a _=>?_
   refine Zaa fun b _=>?_
   refine Zqa fun _=>?_
   refine Zaa fun d _=>?_
   refine Zaa fun e _=>?_
   refine Zha (fun _=>?_) (fun _=>?_)
   ·exact Zda rfl
   ·exact ih _ _ _ _
  ·exact Zda rfl
def ZCe (s1 s2:Rs):Option (Bool) :=
 cond ((s1.length:Int) !=(s2.length:Int)) (
  some false) (
  Option.bind (Zeh 9223372036854775808 s1 s2 (s1.length:Int) 0) fun s=>match s with
   | (Sum.inl b3) =>
    some b3
   | (Sum.inr _) =>
    some true)
theorem ZuD {R:Type} (s1 s2:Rs)(k:Bool→Option R):Tw (ZCe s1 s2) (ZWg 9223372036854775808 s1 s2 k) (fun s=>match s with | a0=>k a0):=by
 unfold ZCe ZWg
 refine Zha (fun _=>?_) (fun _=>?_)
 ·exact Zda rfl
 ·refine Zma (Z0A _ _ _ _ _ _ _) (fun s=>?_)
  rcases s with b3 | ⟨⟩
  ·exact Zda rfl
  ·exact Zda rfl
theorem ZfD:∀ (s1 s2:Rs)(y:Bool),ZCe s1 s2=some y→∃ n,∀ (R:Type)(k:Bool→Option R),ZWg n s1 s2 k=k y:=fun s1 s2 y h=>⟨9223372036854775808,fun R k=>ZuD s1 s2 k y h⟩
def ZDo:Cs→Option (Bool)
 | [.fs s1,.fs s2]=>ZCe s1 s2
 | _=>none
def Zuo:List (Nat × Cal):=[]
def Zqo:Ctr:=⟨[none,none],Bool,ZDo,Zqv,true,.d⟩
def ZWe:List (Nat × LC):=[(4,⟨[0,1,12,13],[],[],[],[]⟩),
 (2000004,⟨[4],[],[],[],[]⟩),
 (1004000,⟨[],[],[],[],[]⟩)]
def Zgn:SP:=⟨Zea .undef [(0,(.val .fs)),(1,(.val .fs)),(12,(.val (.int .i64))),(13,(.val (.int .i64)))] 0 26,[],[]⟩
def ZIr:Nat→Option SP
 | 4=>some Zgn
 | _=>none
def ZIq:Nat→Option SP
 | _=>none
def ZQd (n:Nat)(ls:List Leaf)(R:Type)(k:Ex→St→Option R):Option R :=
 match ls with
 | [.rows s4,.rows s5,.int i6,.int i7]=>ZPf n s4 s5 i6 i7 (fun a=>k .ret ⟨Zea .undef [(4,(TV.val (PV.bool a)))] 0 26,[],[]⟩)
   (fun _=>k (.exit 0) ⟨Zea .undef [] 0 26,[],[]⟩)
 | _=>none
def Z7v (n key:Nat) (ls:List Leaf) (R:Type) (k:Ex→St→Option R):Option R :=
 match key with
 | 4=>ZQd n ls R k
 | _=>none
def Zkv (n key:Nat) (ls:List Leaf) (R:Type) (k:Ex→St→Option R):Option R :=
 match key with
 | _=>none
def ZBt:Code→Bool:=fun _=>false
def ZRv:Nat→Loops:=patL (Zsa ZWe) ZIr Z7v (ZCa ZWe) ZBt ZIq Zkv
theorem Zzz (n:Nat)(s4 s5:Rs)(i6 i7:Int)  (R:Type) (k:Ex→St→Option R) :
  Zza T G0 (Zja Zuo) (Zsa ZWe) (ZRv n) (Zia [1,1,0,1,0,0] (Zca Tryz.f119)) (Zoa Zgn [.rows s4,.rows s5,.int i6,.int i7]) R k=ZQd (n + 1) [.rows s4,.rows s5,.int i6,.int i7] R k:=by kernel_rfl
theorem ZZD (n:Nat)(s1 s2:Rs) :
  funK T G0 (Zja Zuo) (ZRv n) .d true [none,none] (Zfa Tryz.f119) [.fs s1,.fs s2]=ZWg n  s1 s2 (fun a0=>some (Zqv a0)):=by kernel_rfl
theorem ZSC {ps:Cs} {y:Bool} (h:ZDo ps=some y):∃ (s1:Rs) (s2:Rs),ps=[.fs s1,.fs s2]:=by
 unfold ZDo at h
 split at h
 ·exact ⟨_,_,rfl⟩
 ·cases h
theorem Zap:Zpa (Zca Tryz.f119)=[Zia [1,1,0,1,0,0] (Zca Tryz.f119)]:=by kernel_rfl
theorem Z0z (hΓ:Zga Tryz.prog G0 Zuo) (hok:∀ (s1 s2:Rs)(y:Bool),ZCe s1 s2=some y→∃ n,∀ (R:Type)(k:Bool→Option R),ZWg n  s1 s2 k=k y):Zka Tryz.prog G0 119 Zqo:=by
 refine ZHa mixed tOk (Zna hΓ) Tryz.func119 rfl rfl rfl rfl (F:=Zfa Tryz.f119) (ZBa ZWe) (pat:=ZIr) (L:=Z7v) (ZFa ZWe) (on:=ZBt) (patj:=ZIq) (J:=Zkv) (fun c hc ls R k=>?_) (fun c hc p hp m ls R k r h=>?_) (fun c hc p hp m ls R k r h=>?_) (fun ps x h=>?_)
 ·rw [show (Zfa Tryz.f119).code=Zca Tryz.f119 from rfl,Zap] at hc
  simp only [List.mem_cons,List.not_mem_nil,or_false] at hc
  rcases hc with rfl
  ·show ZQd 0 ls R k=none
   unfold ZQd
   split
   ·rfl
   ·rfl
 ·rw [show (Zfa Tryz.f119).code=Zca Tryz.f119 from rfl,Zap] at hc
  simp only [List.mem_cons,List.not_mem_nil,or_false] at hc
  rcases hc with rfl
  ·obtain rfl:Zgn=p:=Option.some.inj hp
   change ZQd (m + 1) ls R k=some r at h
   have h':=h
   unfold ZQd at h'
   split at h'
   ·exact (Zzz m _ _ _ _ R k).trans h
   ·cases h'
 ·cases (List.mem_filter.1 hc).2
 ·obtain ⟨y,hy,hx⟩:=Zba h
  cases hx
  obtain ⟨s1,s2,rfl⟩:=ZSC hy
  obtain ⟨n,hn⟩:=hok s1 s2 y hy
  exact ⟨n,(ZZD n s1 s2).trans (hn _ _)⟩
def ZDf {R:Type} (t1:Int)(t2 t3:Rs)(k:Bool→Option R):Option R :=
 Option.bind (ZCe t2 t3) fun y4 =>
 k y4
def ZUt (y:Bool):PV × Cs:=((PV.bool y),[])
def Zcn (t1:Int)(t2 t3:Rs):Option (Bool):=ZDf t1 t2 t3 fun a0=>some a0
def Z7c:Cs→Option (Bool)
 | [.agg [.int .i64 t1,.fs t2,.fs t3]]=>Zcn t1 t2 t3
 | _=>none
def ZNn:List (Nat × Cal):=[(119,.ctr Zqo),(1000000001,ro_I)]
def ZAi:Ctr:=⟨[none],Bool,Z7c,ZUt,true,.d⟩
theorem ZRC (t1:Int)(t2 t3:Rs) :
  funK T G0 (Zja ZNn) noL .d true [none] (Zfa Tryz.f118) [.agg [.int .i64 t1,.fs t2,.fs t3]]=ZDf  t1 t2 t3 (fun a0=>some (ZUt a0)):=by kernel_rfl
theorem ZvA {ps:Cs} {y:Bool} (h:Z7c ps=some y):∃ (t1:Int) (t2:Rs) (t3:Rs),ps=[.agg [.int .i64 t1,.fs t2,.fs t3]]:=by
 unfold Z7c at h
 split at h
 ·exact ⟨_,_,_,rfl⟩
 ·cases h
theorem ZYA {R:Type} (t1:Int)(t2 t3:Rs)(k:Bool→Option R):ZDf t1 t2 t3 k=Option.bind (ZDf t1 t2 t3 fun a0=>some a0) fun y=>k y:=by
 unfold ZDf
 first | rfl | simp only [Option.bind_assoc,Zya,Zxa,Option.bind_some,Option.bind_none]
theorem Z2x (hΓ:Zga Tryz.prog G0 ZNn):Zka Tryz.prog G0 118 ZAi:=by
 refine ZIa mixed tOk (Zna hΓ) Tryz.func118 rfl rfl rfl rfl (F:=Zfa Tryz.f118) (fun ps x h=>?_)
 obtain ⟨y,hy,hx⟩:=Zba h
 cases hx
 obtain ⟨t1,t2,t3,rfl⟩:=ZvA hy
 have hy':Zcn t1 t2 t3=some y:=hy
 refine ⟨noL,ZKa _,(ZRC t1 t2 t3).trans ?_⟩
 unfold Zcn at hy'
 rw [ZYA,hy']
 rfl
def Zrd {R:Type}:Nat→Rs→Int→Int→(Int→Option R)→(Unit→Option R)→Option R
 | 0,_,_,_,_,_=>none
 | n + 1,s3,i4,i5,k0,k1 =>
  cond (decide (i5 < i4)) (
   Option.bind (idx s3 i5) fun e6 =>
   if e6.length=3 then
    Option.bind (Zra e6 0 3) fun p7 =>
    Option.bind (Z7c [p7]) fun y8 =>
    cond y8 (
     k0 i5) (
     Zrd n s3 i4 (IntKind.i64.wrap (i5 + (1:Int))) k0 k1)
   else none) (
   k1 ())
def ZLd {R:Type} (n:Nat)(s1:Rs)(k:Int→Option R):Option R :=
 Zrd n s1 (s1.length:Int) 0 k
  (fun (_:Unit) =>
   k (-1))
def Zqp (y:Int):PV × Cs:=((PV.int .i64 y),[])
def Zle:Nat→Rs→Int→Int→Option ((Int) ⊕ (Unit))
 | 0,_,_,_=>none
 | n + 1,s3,i4,i5 =>
  cond (decide (i5 < i4)) (
   Option.bind (idx s3 i5) fun e6 =>
   if e6.length=3 then
    Option.bind (Zra e6 0 3) fun p7 =>
    Option.bind (Z7c [p7]) fun y8 =>
    cond y8 (
     some (Sum.inl i5)) (
     Zle n s3 i4 (IntKind.i64.wrap (i5 + (1:Int))))
   else none) (
   some (Sum.inr ()))
theorem ZKv {R:Type} (n:Nat)(s3:Rs)(i4 i5:Int)(k0:Int→Option R)(k1:Unit→Option R):Tw (Zle n s3 i4 i5) (Zrd n s3 i4 i5 k0 k1) (fun s=>match s with | (Sum.inl a0)=>k0 a0 | (Sum.inr _)=>k1 ()):=by
 induction n generalizing s3 i4 i5 with
 | zero=>exact Zwa
 | succ n ih =>
  unfold Zle Zrd
  refine Zha (fun _=>?_) (fun _=>?_)
  ·refine Zaa fun e6 _=>?_
   refine Zqa fun _=>?_
   refine Zaa fun p7 _=>?_
   refine Zaa fun y8 _=>?_
   refine Zha (fun _=>?_) (fun _=>?_)
   ·exact Zda rfl
   ·exact ih _ _ _
  ·exact Zda rfl
def Z2b (s1:Rs):Option (Int) :=
 Option.bind (Zle 9223372036854775808 s1 (s1.length:Int) 0) fun s=>match s with
  | (Sum.inl i2) =>
   some i2
  | (Sum.inr _) =>
   some (-1)
theorem Z7x {R:Type} (s1:Rs)(k:Int→Option R):Tw (Z2b s1) (ZLd 9223372036854775808 s1 k) (fun s=>match s with | a0=>k a0):=by
 unfold Z2b ZLd
 refine Zma (ZKv _ _ _ _ _ _) (fun s=>?_)
 rcases s with i2 | ⟨⟩
 ·exact Zda rfl
 ·exact Zda rfl
theorem Z5x:∀ (s1:Rs)(y:Int),Z2b s1=some y→∃ n,∀ (R:Type)(k:Int→Option R),ZLd n s1 k=k y:=fun s1 y h=>⟨9223372036854775808,fun R k=>Z7x s1 k y h⟩
def ZSi:Cs→Option (Int)
 | [.fs s1,.fn (Fn.func 118) []]=>Z2b s1
 | _=>none
def ZWf:List (Nat × Cal):=[(118,.ctr ZAi)]
def ZNi:Ctr:=⟨[none,none],Int,ZSi,Zqp,true,.d⟩
def ZZc:List (Nat × LC):=[(2,⟨[0,1,7,8],[],[],[],[]⟩),
 (2000002,⟨[4],[],[],[],[]⟩),
 (1002000,⟨[],[],[],[],[]⟩)]
def Zri:SP:=⟨Zea .undef [(0,(.val .fs)),(1,(.val (.fn 118 []))),(7,(.val (.int .i64))),(8,(.val (.int .i64)))] 0 19,[],[]⟩
def ZIm:Nat→Option SP
 | 2=>some Zri
 | _=>none
def Zam:Nat→Option SP
 | _=>none
def Zoc (n:Nat)(ls:List Leaf)(R:Type)(k:Ex→St→Option R):Option R :=
 match ls with
 | [.rows s3,.int i4,.int i5]=>Zrd n s3 i4 i5 (fun a=>k .ret ⟨Zea .undef [(4,(TV.val (PV.int .i64 a)))] 0 19,[],[]⟩)
   (fun _=>k (.exit 0) ⟨Zea .undef [] 0 19,[],[]⟩)
 | _=>none
def Zbp (n key:Nat) (ls:List Leaf) (R:Type) (k:Ex→St→Option R):Option R :=
 match key with
 | 2=>Zoc n ls R k
 | _=>none
def Zop (n key:Nat) (ls:List Leaf) (R:Type) (k:Ex→St→Option R):Option R :=
 match key with
 | _=>none
def Z7n:Code→Bool:=fun _=>false
def Zhp:Nat→Loops:=patL (Zsa ZZc) ZIm Zbp (ZCa ZZc) Z7n Zam Zop
theorem ZHu (n:Nat)(s3:Rs)(i4 i5:Int)  (R:Type) (k:Ex→St→Option R) :
  Zza T G0 (Zja ZWf) (Zsa ZZc) (Zhp n) (Zia [1,0,1,0,0] (Zca Tryz.f176)) (Zoa Zri [.rows s3,.int i4,.int i5]) R k=Zoc (n + 1) [.rows s3,.int i4,.int i5] R k:=by kernel_rfl
theorem Ziy (n:Nat)(s1:Rs) :
  funK T G0 (Zja ZWf) (Zhp n) .d true [none,none] (Zfa Tryz.f176) [.fs s1,.fn (Fn.func 118) []]=ZLd n  s1 (fun a0=>some (Zqp a0)):=by kernel_rfl
theorem Zrw {ps:Cs} {y:Int} (h:ZSi ps=some y):∃ (s1:Rs),ps=[.fs s1,.fn (Fn.func 118) []]:=by
 unfold ZSi at h
 split at h
 ·exact ⟨_,rfl⟩
 ·cases h
theorem Zok:Zpa (Zca Tryz.f176)=[Zia [1,0,1,0,0] (Zca Tryz.f176)]:=by kernel_rfl
theorem Ztu (hΓ:Zga Tryz.prog G0 ZWf) (hok:∀ (s1:Rs)(y:Int),Z2b s1=some y→∃ n,∀ (R:Type)(k:Int→Option R),ZLd n  s1 k=k y):Zka Tryz.prog G0 176 ZNi:=by
 refine ZHa mixed tOk (Zna hΓ) Tryz.func176 rfl rfl rfl rfl (F:=Zfa Tryz.f176) (ZBa ZZc) (pat:=ZIm) (L:=Zbp) (ZFa ZZc) (on:=Z7n) (patj:=Zam) (J:=Zop) (fun c hc ls R k=>?_) (fun c hc p hp m ls R k r h=>?_) (fun c hc p hp m ls R k r h=>?_) (fun ps x h=>?_)
 ·rw [show (Zfa Tryz.f176).code=Zca Tryz.f176 from rfl,Zok] at hc
  simp only [List.mem_cons,List.not_mem_nil,or_false] at hc
  rcases hc with rfl
  ·show Zoc 0 ls R k=none
   unfold Zoc
   split
   ·rfl
   ·rfl
 ·rw [show (Zfa Tryz.f176).code=Zca Tryz.f176 from rfl,Zok] at hc
  simp only [List.mem_cons,List.not_mem_nil,or_false] at hc
  rcases hc with rfl
  ·obtain rfl:Zri=p:=Option.some.inj hp
   change Zoc (m + 1) ls R k=some r at h
   have h':=h
   unfold Zoc at h'
   split at h'
   ·exact (ZHu m _ _ _ R k).trans h
   ·cases h'
 ·cases (List.mem_filter.1 hc).2
 ·obtain ⟨y,hy,hx⟩:=Zba h
  cases hx
  obtain ⟨s1,rfl⟩:=Zrw hy
  obtain ⟨n,hn⟩:=hok s1 y hy
  exact ⟨n,(Ziy n s1).trans (hn _ _)⟩
def Zac {R:Type}:Nat→Int→Int→Rs→(Int→Rs→Option R)→Option R
 | 0,_,_,_,_=>none
 | n + 1,i5,j6,a,k0 =>
  cond (decide (j6 < (a.length:Int))) (
   if 0≤j6∧j6 < (a.length:Int) then
    Option.bind (a[(Int.toNat j6)]?) fun e8 =>
    Option.bind (Zra e8 0 3) fun p9 =>
    if (PV.isAgg p9 3)=true then
     Option.bind (Z7c [p9]) fun b =>
     cond (!b) (
      if 0≤i5∧i5 < (a.length:Int) then
       if (PV.isAgg p9 3)=true then
        Option.bind (a[(Int.toNat i5)]?) fun d =>
        Zac n (IntKind.i64.wrap (i5 + (1:Int))) (IntKind.i64.wrap (j6 + (1:Int))) (List.set a (Int.toNat i5) (PV.cells p9)) k0
       else none
      else none) (
      Zac n i5 (IntKind.i64.wrap (j6 + (1:Int))) a k0)
    else none
   else none) (
   k0 i5 a)
def Zqd {R:Type} (n:Nat)(s1:Rs)(k:Rs→Option R):Option R :=
 Option.bind (Z2b s1) fun y2 =>
 cond (y2 ==(-1:Int)) (
  k s1) (
  Zac n y2 (IntKind.i64.wrap (y2 + (1:Int))) s1
   (fun (i3:Int)(a:Rs) =>
    if (0:Int)≤i3∧i3≤(a.length:Int)∧(a.length:Int)=(a.length:Int)∧(a.length:Int)≤(a.length:Int)∧3=3 then
     if (0:Int)≤(0:Int)∧(0:Int)≤i3∧i3=i3∧i3≤((((a.take (Int.toNat i3)) ++ (List.replicate (Int.toNat ((a.length:Int) - i3)) [(PV.int .i64 0),(PV.fs []),(PV.fs [])])) ++ (a.drop ((Int.toNat i3) + (Int.toNat ((a.length:Int) - i3))))).length:Int)∧3=3 then
      k (((((a.take (Int.toNat i3)) ++ (List.replicate (Int.toNat ((a.length:Int) - i3)) [(PV.int .i64 0),(PV.fs []),(PV.fs [])])) ++ (a.drop ((Int.toNat i3) + (Int.toNat ((a.length:Int) - i3))))).drop 0).take (Int.toNat (i3 - (0:Int))))
     else none
    else none))
def Z4n (y:Rs):PV × Cs:=((PV.os y 3),[])
def ZLc:Nat→Int→Int→Rs→Option ((Int × Rs))
 | 0,_,_,_=>none
 | n + 1,i5,j6,a =>
  cond (decide (j6 < (a.length:Int))) (
   if 0≤j6∧j6 < (a.length:Int) then
    Option.bind (a[(Int.toNat j6)]?) fun e8 =>
    Option.bind (Zra e8 0 3) fun p9 =>
    if (PV.isAgg p9 3)=true then
     Option.bind (Z7c [p9]) fun b =>
     cond (!b) (
      if 0≤i5∧i5 < (a.length:Int) then
       if (PV.isAgg p9 3)=true then
        Option.bind (a[(Int.toNat i5)]?) fun d =>
        ZLc n (IntKind.i64.wrap (i5 + (1:Int))) (IntKind.i64.wrap (j6 + (1:Int))) (List.set a (Int.toNat i5) (PV.cells p9))
       else none
      else none) (
      ZLc n i5 (IntKind.i64.wrap (j6 + (1:Int))) a)
    else none
   else none) (
   some (i5,a))
theorem Z1u {R:Type} (n:Nat)(i5 j6:Int)(a:Rs)(k0:Int→Rs→Option R):Tw (ZLc n i5 j6 a) (Zac n i5 j6 a k0) (fun s=>match s with | (a0,a1)=>k0 a0 a1):=by
 induction n generalizing i5 j6 a with
 | zero=>exact Zwa
 | succ n ih =>
  unfold ZLc Zac
  refine Zha (fun _=>?_) (fun _=>?_)
  ·refine Zqa fun _=>?_
   refine Zaa fun e8 _=>?_
   refine Zaa fun p9 _=>?_
   refine Zqa fun _=>?_
   refine Zaa fun b _=>?_
   refine Zha (fun _=>?_) (fun _=>?_)
   ·refine Zqa fun _=>?_
    refine Zqa fun _=>?_
    refine Zaa fun d _=>?_
    exact ih _ _ _
   ·exact ih _ _ _
  ·exact Zda rfl
def Znc (s1:Rs):Option (Rs) :=
 Option.bind (Z2b s1) fun y2 =>
 cond (y2 ==(-1:Int)) (
  some s1) (
  Option.bind (ZLc 9223372036854775808 y2 (IntKind.i64.wrap (y2 + (1:Int))) s1) fun s=>match s with
   | (i3,a) =>
    if (0:Int)≤i3∧i3≤(a.length:Int)∧(a.length:Int)=(a.length:Int)∧(a.length:Int)≤(a.length:Int)∧3=3 then
     if (0:Int)≤(0:Int)∧(0:Int)≤i3∧i3=i3∧i3≤((((a.take (Int.toNat i3)) ++ (List.replicate (Int.toNat ((a.length:Int) - i3)) [(PV.int .i64 0),(PV.fs []),(PV.fs [])])) ++ (a.drop ((Int.toNat i3) + (Int.toNat ((a.length:Int) - i3))))).length:Int)∧3=3 then
      some (((((a.take (Int.toNat i3)) ++ (List.replicate (Int.toNat ((a.length:Int) - i3)) [(PV.int .i64 0),(PV.fs []),(PV.fs [])])) ++ (a.drop ((Int.toNat i3) + (Int.toNat ((a.length:Int) - i3))))).drop 0).take (Int.toNat (i3 - (0:Int))))
     else none
    else none)
theorem Zzw {R:Type} (s1:Rs)(k:Rs→Option R):Tw (Znc s1) (Zqd 9223372036854775808 s1 k) (fun s=>match s with | a0=>k a0):=by
 unfold Znc Zqd
 refine Zaa fun y2 _=>?_
 refine Zha (fun _=>?_) (fun _=>?_)
 ·exact Zda rfl
 ·refine Zma (Z1u _ _ _ _ _) (fun s=>?_)
  rcases s with ⟨i3,a⟩
  ·refine Zqa fun _=>?_
   refine Zqa fun _=>?_
   exact Zda rfl
theorem ZIw:∀ (s1 y:Rs),Znc s1=some y→∃ n,∀ (R:Type)(k:Rs→Option R),Zqd n s1 k=k y:=fun s1 y h=>⟨9223372036854775808,fun R k=>Zzw s1 k y h⟩
def Zqi:Cs→Option (Rs)
 | [.os s1 3,.fn (Fn.func 118) []]=>Znc s1
 | _=>none
def Z2e:List (Nat × Cal):=[(176,.ctr ZNi),(118,.ctr ZAi)]
def Zpi:Ctr:=⟨[some (.s,false),none],Rs,Zqi,Z4n,false,.s⟩
def ZNc:List (Nat × LC):=[(5,⟨[0,1,5,6],[],[],[],[]⟩),
 (1005000,⟨[0,5],[],[],[],[]⟩)]
def Zah:SP:=⟨Zea .undef [(0,(.ow 0)),(1,(.val (.fn 118 []))),(5,(.val (.int .i64))),(6,(.val (.int .i64)))] 0 42,[(.row 3)],[]⟩
def Zcm:Nat→Option SP
 | 5=>some Zah
 | _=>none
def Ztk:Nat→Option SP
 | _=>none
def Zcc (n:Nat)(ls:List Leaf)(R:Type)(k:Ex→St→Option R):Option R :=
 match ls with
 | [.int i5,.int j6,.rows a]=>Zac n i5 j6 a (fun b d=>k (.exit 0) ⟨Zea .undef [(0,(TV.ow 0)),(5,(TV.val (PV.int .i64 b)))] 0 42,[(Ob.row d 3)],[]⟩)
 | _=>none
def Z1n (n key:Nat) (ls:List Leaf) (R:Type) (k:Ex→St→Option R):Option R :=
 match key with
 | 5=>Zcc n ls R k
 | _=>none
def Z5n (n key:Nat) (ls:List Leaf) (R:Type) (k:Ex→St→Option R):Option R :=
 match key with
 | _=>none
def Zjn:Code→Bool:=fun _=>false
def Z3n:Nat→Loops:=patL (Zsa ZNc) Zcm Z1n (ZCa ZNc) Zjn Ztk Z5n
theorem Z5s (n:Nat)(i5 j6:Int)(a:Rs)  (R:Type) (k:Ex→St→Option R) :
  Zza T G0 (Zja Z2e) (Zsa ZNc) (Z3n n) (Zia [1,1,1,0,1,0,0] (Zca Tryz.f115)) (Zoa Zah [.int i5,.int j6,.rows a]) R k=Zcc (n + 1) [.int i5,.int j6,.rows a] R k:=by kernel_rfl
theorem Zyw (n:Nat)(s1:Rs) :
  funK T G0 (Zja Z2e) (Z3n n) .s false [some (.s,false),none] (Zfa Tryz.f115) [.os s1 3,.fn (Fn.func 118) []]=Zqd n  s1 (fun a0=>some (Z4n a0)):=by kernel_rfl
theorem ZNv {ps:Cs} {y:Rs} (h:Zqi ps=some y):∃ (s1:Rs),ps=[.os s1 3,.fn (Fn.func 118) []]:=by
 unfold Zqi at h
 split at h
 ·exact ⟨_,rfl⟩
 ·cases h
theorem Z2j:Zpa (Zca Tryz.f115)=[Zia [1,1,1,0,1,0,0] (Zca Tryz.f115)]:=by kernel_rfl
theorem Z2s (hΓ:Zga Tryz.prog G0 Z2e) (hok:∀ (s1 y:Rs),Znc s1=some y→∃ n,∀ (R:Type)(k:Rs→Option R),Zqd n  s1 k=k y):Zka Tryz.prog G0 115 Zpi:=by
 refine ZHa mixed tOk (Zna hΓ) Tryz.func115 rfl rfl rfl rfl (F:=Zfa Tryz.f115) (ZBa ZNc) (pat:=Zcm) (L:=Z1n) (ZFa ZNc) (on:=Zjn) (patj:=Ztk) (J:=Z5n) (fun c hc ls R k=>?_) (fun c hc p hp m ls R k r h=>?_) (fun c hc p hp m ls R k r h=>?_) (fun ps x h=>?_)
 ·rw [show (Zfa Tryz.f115).code=Zca Tryz.f115 from rfl,Z2j] at hc
  simp only [List.mem_cons,List.not_mem_nil,or_false] at hc
  rcases hc with rfl
  ·show Zcc 0 ls R k=none
   unfold Zcc
   split
   ·rfl
   ·rfl
 ·rw [show (Zfa Tryz.f115).code=Zca Tryz.f115 from rfl,Z2j] at hc
  simp only [List.mem_cons,List.not_mem_nil,or_false] at hc
  rcases hc with rfl
  ·obtain rfl:Zah=p:=Option.some.inj hp
   change Zcc (m + 1) ls R k=some r at h
   have h':=h
   unfold Zcc at h'
   split at h'
   ·exact (Z5s m _ _ _ R k).trans h
   ·cases h'
 ·cases (List.mem_filter.1 hc).2
 ·obtain ⟨y,hy,hx⟩:=Zba h
  cases hx
  obtain ⟨s1,rfl⟩:=ZNv hy
  obtain ⟨n,hn⟩:=hok s1 y hy
  exact ⟨n,(Zyw n s1).trans (hn _ _)⟩
def Zwk {R:Type} (x1:Int)(k:Bool→Option R):Option R :=
 k (x1 != x1)
def Z8A (y:Bool):PV × Cs:=((PV.bool y),[])
def ZDk (x1:Int):Option (Bool):=Zwk x1 fun a0=>some a0
def ZQu:Cs→Option (Bool)
 | [.int .i64 x1]=>ZDk x1
 | _=>none
def ZzB:List (Nat × Cal):=[]
def Zwu:Ctr:=⟨[none],Bool,ZQu,Z8A,true,.d⟩
theorem ZYI (x1:Int) :
  funK T G0 (Zja ZzB) noL .d true [none] (Zfa Tryz.f179) [.int .i64 x1]=Zwk  x1 (fun a0=>some (Z8A a0)):=by kernel_rfl
theorem ZsI {ps:Cs} {y:Bool} (h:ZQu ps=some y):∃ (x1:Int),ps=[.int .i64 x1]:=by
 unfold ZQu at h
 split at h
 ·exact ⟨_,rfl⟩
 ·cases h
theorem ZsH {R:Type} (x1:Int)(k:Bool→Option R):Zwk x1 k=Option.bind (Zwk x1 fun a0=>some a0) fun y=>k y:=by
 unfold Zwk
 first | rfl | simp only [Option.bind_assoc,Zya,Zxa,Option.bind_some,Option.bind_none]
theorem ZGE (hΓ:Zga Tryz.prog G0 ZzB):Zka Tryz.prog G0 179 Zwu:=by
 refine ZIa mixed tOk (Zna hΓ) Tryz.func179 rfl rfl rfl rfl (F:=Zfa Tryz.f179) (fun ps x h=>?_)
 obtain ⟨y,hy,hx⟩:=Zba h
 cases hx
 obtain ⟨x1,rfl⟩:=ZsI hy
 have hy':ZDk x1=some y:=hy
 refine ⟨noL,ZKa _,(ZYI x1).trans ?_⟩
 unfold ZDk at hy'
 rw [ZsH,hy']
 rfl
def ZSh {R:Type} (x1 y2:Int)(k:Int→Option R):Option R :=
 Option.bind (ZDk x1) fun y3 =>
 Option.bind (ZDk y2) fun y4 =>
 cond y3 (
  cond y4 (
   k 0) (
   k (-1))) (
  cond y4 (
   k 1) (
   cond (decide (x1 < y2)) (
    k (-1)) (
    cond (decide (x1 > y2)) (
     k 1) (
     k 0))))
def ZEx (y:Int):PV × Cs:=((PV.int .i64 y),[])
def ZGh (x1 y2:Int):Option (Int):=ZSh x1 y2 fun a0=>some a0
def Z0p:Cs→Option (Int)
 | [.int .i64 x1,.int .i64 y2]=>ZGh x1 y2
 | _=>none
def Ziq:List (Nat × Cal):=[(179,.ctr Zwu)]
def Zsl:Ctr:=⟨[none,none],Int,Z0p,ZEx,true,.d⟩
theorem ZhG (x1 y2:Int) :
  funK T G0 (Zja Ziq) noL .d true [none,none] (Zfa Tryz.f122) [.int .i64 x1,.int .i64 y2]=ZSh  x1 y2 (fun a0=>some (ZEx a0)):=by kernel_rfl
theorem ZQD {ps:Cs} {y:Int} (h:Z0p ps=some y):∃ (x1:Int) (y2:Int),ps=[.int .i64 x1,.int .i64 y2]:=by
 unfold Z0p at h
 split at h
 ·exact ⟨_,_,rfl⟩
 ·cases h
theorem ZUD {R:Type} (x1 y2:Int)(k:Int→Option R):ZSh x1 y2 k=Option.bind (ZSh x1 y2 fun a0=>some a0) fun y=>k y:=by
 unfold ZSh
 first | rfl | simp only [Option.bind_assoc,Zya,Zxa,Option.bind_some,Option.bind_none]
theorem ZDA (hΓ:Zga Tryz.prog G0 Ziq):Zka Tryz.prog G0 122 Zsl:=by
 refine ZIa mixed tOk (Zna hΓ) Tryz.func122 rfl rfl rfl rfl (F:=Zfa Tryz.f122) (fun ps x h=>?_)
 obtain ⟨y,hy,hx⟩:=Zba h
 cases hx
 obtain ⟨x1,y2,rfl⟩:=ZQD hy
 have hy':ZGh x1 y2=some y:=hy
 refine ⟨noL,ZKa _,(ZhG x1 y2).trans ?_⟩
 unfold ZGh at hy'
 rw [ZUD,hy']
 rfl
def ZXf {R:Type} (a1:Int)(a2 a3:Rs)(b4:Int)(b5 b6:Rs)(k:Int→Option R):Option R :=
 Option.bind (ZGh a1 b4) fun y7 =>
 k y7
def ZRt (y:Int):PV × Cs:=((PV.int .i64 y),[])
def Zsn (a1:Int)(a2 a3:Rs)(b4:Int)(b5 b6:Rs):Option (Int):=ZXf a1 a2 a3 b4 b5 b6 fun a0=>some a0
def ZVd:Cs→Option (Int)
 | [.agg [.int .i64 a1,.fs a2,.fs a3],.agg [.int .i64 b4,.fs b5,.fs b6]]=>Zsn a1 a2 a3 b4 b5 b6
 | _=>none
def Zpm:List (Nat × Cal):=[(122,.ctr Zsl),(1000000002,ro_I),(1000000003,ro_I)]
def ZKn:Ctr:=⟨[none,none],Int,ZVd,ZRt,true,.d⟩
theorem ZZB (a1:Int)(a2 a3:Rs)(b4:Int)(b5 b6:Rs) :
  funK T G0 (Zja Zpm) noL .d true [none,none] (Zfa Tryz.f121) [.agg [.int .i64 a1,.fs a2,.fs a3],.agg [.int .i64 b4,.fs b5,.fs b6]]=ZXf  a1 a2 a3 b4 b5 b6 (fun a0=>some (ZRt a0)):=by kernel_rfl
theorem ZMA {ps:Cs} {y:Int} (h:ZVd ps=some y):∃ (a1:Int) (a2:Rs) (a3:Rs) (b4:Int) (b5:Rs) (b6:Rs),ps=[.agg [.int .i64 a1,.fs a2,.fs a3],.agg [.int .i64 b4,.fs b5,.fs b6]]:=by
 unfold ZVd at h
 split at h
 ·exact ⟨_,_,_,_,_,_,rfl⟩
 ·cases h
theorem ZtA {R:Type} (a1:Int)(a2 a3:Rs)(b4:Int)(b5 b6:Rs)(k:Int→Option R):ZXf a1 a2 a3 b4 b5 b6 k=Option.bind (ZXf a1 a2 a3 b4 b5 b6 fun a0=>some a0) fun y=>k y:=by
 unfold ZXf
 first | rfl | simp only [Option.bind_assoc,Zya,Zxa,Option.bind_some,Option.bind_none]
theorem Zmy (hΓ:Zga Tryz.prog G0 Zpm):Zka Tryz.prog G0 121 ZKn:=by
 refine ZIa mixed tOk (Zna hΓ) Tryz.func121 rfl rfl rfl rfl (F:=Zfa Tryz.f121) (fun ps x h=>?_)
 obtain ⟨y,hy,hx⟩:=Zba h
 cases hx
 obtain ⟨a1,a2,a3,b4,b5,b6,rfl⟩:=ZMA hy
 have hy':Zsn a1 a2 a3 b4 b5 b6=some y:=hy
 refine ⟨noL,ZKa _,(ZZB a1 a2 a3 b4 b5 b6).trans ?_⟩
 unfold Zsn at hy'
 rw [ZtA,hy']
 rfl
def Zkb {R:Type} (n:Nat)(a b d e:Int)(f:Rs)(k0:Int→Int→Int→Int→Rs→Option R):Option R :=
 if 0≤(IntKind.i64.wrap (e - (1:Int)))∧(IntKind.i64.wrap (e - (1:Int))) < (f.length:Int) then
  if 0≤e∧e < (f.length:Int) then
   meet (
    Option.bind (f[(Int.toNat (IntKind.i64.wrap (e - (1:Int))))]?) fun g =>
    Option.bind (Zra g 0 3) fun i =>
    Option.bind (f[(Int.toNat e)]?) fun j =>
    Option.bind (Zra j 0 3) fun l =>
    if 0≤e∧e < (f.length:Int) then
     if (PV.isAgg i 3)=true then
      Option.bind (f[(Int.toNat e)]?) fun o =>
      if 0≤(IntKind.i64.wrap (e - (1:Int)))∧(IntKind.i64.wrap (e - (1:Int))) < ((List.set f (Int.toNat e) (PV.cells i)).length:Int) then
       if (PV.isAgg l 3)=true then
        Option.bind ((List.set f (Int.toNat e) (PV.cells i))[(Int.toNat (IntKind.i64.wrap (e - (1:Int))))]?) fun q =>
        k0 a b d (IntKind.i64.wrap (e - (1:Int))) (List.set (List.set f (Int.toNat e) (PV.cells i)) (Int.toNat (IntKind.i64.wrap (e - (1:Int)))) (PV.cells l))
       else none
      else none
     else none
    else none) (
    Option.bind (f[(Int.toNat e)]?) fun t =>
    Option.bind (Zra t 0 3) fun u =>
    Option.bind (f[(Int.toNat (IntKind.i64.wrap (e - (1:Int))))]?) fun v =>
    Option.bind (Zra v 0 3) fun z =>
    if 0≤e∧e < (f.length:Int) then
     if (PV.isAgg z 3)=true then
      Option.bind (f[(Int.toNat e)]?) fun A =>
      if 0≤(IntKind.i64.wrap (e - (1:Int)))∧(IntKind.i64.wrap (e - (1:Int))) < ((List.set f (Int.toNat e) (PV.cells z)).length:Int) then
       if (PV.isAgg u 3)=true then
        Option.bind ((List.set f (Int.toNat e) (PV.cells z))[(Int.toNat (IntKind.i64.wrap (e - (1:Int))))]?) fun B =>
        k0 a b d (IntKind.i64.wrap (e - (1:Int))) (List.set (List.set f (Int.toNat e) (PV.cells z)) (Int.toNat (IntKind.i64.wrap (e - (1:Int)))) (PV.cells u))
       else none
      else none
     else none
    else none)
  else none
 else none
def Z4a {R:Type}:Nat→Int→Int→Int→Int→Rs→(Int→Int→Int→Rs→Option R)→Option R
 | 0,_,_,_,_,_,_=>none
 | n + 1,a,b,d,e,f,k0 =>
  cond (decide (e > a)) (
   if 0≤e∧e < (f.length:Int) then
    if 0≤(IntKind.i64.wrap (e - (1:Int)))∧(IntKind.i64.wrap (e - (1:Int))) < (f.length:Int) then
     meet (
      Option.bind (f[(Int.toNat e)]?) fun g =>
      Option.bind (Zra g 0 3) fun i =>
      Option.bind (f[(Int.toNat (IntKind.i64.wrap (e - (1:Int))))]?) fun j =>
      Option.bind (Zra j 0 3) fun l =>
      Option.bind (ZVd [i,l]) fun o =>
      cond (decide (o < (0:Int))) (
       Zkb n a b d e f
        (fun (q t u v:Int)(z:Rs) =>
         Z4a n q t u v z k0)) (
       k0 a b d f)) (
      Option.bind (f[(Int.toNat (IntKind.i64.wrap (e - (1:Int))))]?) fun A =>
      Option.bind (Zra A 0 3) fun B =>
      Option.bind (f[(Int.toNat e)]?) fun C =>
      Option.bind (Zra C 0 3) fun D =>
      Option.bind (ZVd [D,B]) fun E =>
      cond (decide (E < (0:Int))) (
       Zkb n a b d e f
        (fun (F G H I:Int)(J:Rs) =>
         Z4a n F G H I J k0)) (
       k0 a b d f))
    else none
   else none) (
   (fun (z1:Option R) =>
    meet (
     z1) (
     z1)) (
    k0 a b d f))
def Zlb {R:Type}:Nat→Int→Int→Int→Rs→(Rs→Option R)→Option R
 | 0,_,_,_,_,_=>none
 | n + 1,a5,b6,i7,a,k0 =>
  cond (decide (i7 < b6)) (
   Z4a n a5 b6 i7 i7 a
    (fun (a9 b d:Int)(e:Rs) =>
     Zlb n a9 b (IntKind.i64.wrap (d + (1:Int))) e k0)) (
   k0 a)
def Zqb {R:Type} (n:Nat)(a:Rs)(a2 b3:Int)(k:Rs→Option R):Option R :=
 Zlb n a2 b3 (IntKind.i64.wrap (a2 + (1:Int))) a k
def Zcg (y:Rs):PV × Cs:=((PV.tuple []),[.os y 3])
def ZWc (n:Nat)(a b d e:Int)(f:Rs):Option ((Int × Int × Int × Int × Rs)) :=
 if 0≤(IntKind.i64.wrap (e - (1:Int)))∧(IntKind.i64.wrap (e - (1:Int))) < (f.length:Int) then
  if 0≤e∧e < (f.length:Int) then
   Option.bind (f[(Int.toNat (IntKind.i64.wrap (e - (1:Int))))]?) fun g =>
   Option.bind (Zra g 0 3) fun i =>
   Option.bind (f[(Int.toNat e)]?) fun j =>
   Option.bind (Zra j 0 3) fun l =>
   if 0≤e∧e < (f.length:Int) then
    if (PV.isAgg i 3)=true then
     Option.bind (f[(Int.toNat e)]?) fun o =>
     if 0≤(IntKind.i64.wrap (e - (1:Int)))∧(IntKind.i64.wrap (e - (1:Int))) < ((List.set f (Int.toNat e) (PV.cells i)).length:Int) then
      if (PV.isAgg l 3)=true then
       Option.bind ((List.set f (Int.toNat e) (PV.cells i))[(Int.toNat (IntKind.i64.wrap (e - (1:Int))))]?) fun q =>
       some (a,b,d,(IntKind.i64.wrap (e - (1:Int))),(List.set (List.set f (Int.toNat e) (PV.cells i)) (Int.toNat (IntKind.i64.wrap (e - (1:Int)))) (PV.cells l)))
      else none
     else none
    else none
   else none
  else none
 else none
theorem ZAl {R:Type} (n:Nat)(a b d e:Int)(f:Rs)(k0:Int→Int→Int→Int→Rs→Option R):Tw (ZWc n a b d e f) (Zkb n a b d e f k0) (fun s=>match s with | (a0,a1,a2,a3,a4)=>k0 a0 a1 a2 a3 a4):=by
 unfold ZWc Zkb
 refine Zqa fun _=>?_
 refine Zqa fun _=>?_
 intro s hs
 obtain ⟨g,i,hs⟩:=Zba hs
 obtain ⟨j,l,hs⟩:=Zba hs
 obtain ⟨o,q,hs⟩:=Zba hs
 obtain ⟨t,u,hs⟩:=Zba hs
 obtain ⟨v,hs⟩:=ZSa hs
 obtain ⟨z,hs⟩:=ZSa hs
 obtain ⟨A,B,hs⟩:=Zba hs
 cases q.symm.trans B
 obtain ⟨C,hs⟩:=ZSa hs
 obtain ⟨D,hs⟩:=ZSa hs
 obtain ⟨E,F,hs⟩:=Zba hs
 cases hs
 simp only [i,l,q,u,v,z,C,D,F,Option.bind_some,cond_true,cond_false,if_true,if_false,ite_true,ite_false,ZGa,and_self,true_and,and_true,eq_self,not_true_eq_false,not_false_eq_true,Bool.false_eq_true,reduceCtorEq]
def ZFb:Nat→Int→Int→Int→Int→Rs→Option ((Int × Int × Int × Rs))
 | 0,_,_,_,_,_=>none
 | n + 1,a,b,d,e,f =>
  cond (decide (e > a)) (
   if 0≤e∧e < (f.length:Int) then
    if 0≤(IntKind.i64.wrap (e - (1:Int)))∧(IntKind.i64.wrap (e - (1:Int))) < (f.length:Int) then
     Option.bind (f[(Int.toNat e)]?) fun g =>
     Option.bind (Zra g 0 3) fun i =>
     Option.bind (f[(Int.toNat (IntKind.i64.wrap (e - (1:Int))))]?) fun j =>
     Option.bind (Zra j 0 3) fun l =>
     Option.bind (ZVd [i,l]) fun o =>
     cond (decide (o < (0:Int))) (
      Option.bind (ZWc n a b d e f) fun s=>match s with
       | (q,t,u,v,z) =>
        ZFb n q t u v z) (
      some (a,b,d,f))
    else none
   else none) (
   some (a,b,d,f))
theorem ZOl {R:Type} (n:Nat)(a b d e:Int)(f:Rs)(k0:Int→Int→Int→Rs→Option R):Tw (ZFb n a b d e f) (Z4a n a b d e f k0) (fun s=>match s with | (a0,a1,a2,a3)=>k0 a0 a1 a2 a3):=by
 induction n generalizing a b d e f with
 | zero=>exact Zwa
 | succ n ih =>
  unfold ZFb Z4a
  refine Zha (fun _=>?_) (fun _=>?_)
  ·refine Zqa fun _=>?_
   refine Zqa fun _=>?_
   intro s hs
   obtain ⟨g,i,hs⟩:=Zba hs
   obtain ⟨j,l,hs⟩:=Zba hs
   obtain ⟨o,q,hs⟩:=Zba hs
   obtain ⟨t,u,hs⟩:=Zba hs
   obtain ⟨v,z,hs⟩:=Zba hs
   rcases tw_condI hs with ⟨A,hs⟩ | ⟨A,hs⟩
   ·obtain ⟨B,C,hs⟩:=Zba hs
    have D:=fun k0=>ZAl (R:=R) _ _ _ _ _ _ k0 _ C
    rcases B with ⟨E,F,G,H,I⟩
    ·have J:=ih _ _ _ _ _ s hs
     simp only [i,l,q,u,z,A,D,J,Option.bind_some,cond_true,cond_false,if_true,if_false,ite_true,ite_false,ZGa,and_self,true_and,and_true,eq_self,not_true_eq_false,not_false_eq_true,Bool.false_eq_true,reduceCtorEq]
   ·cases hs
    simp only [i,l,q,u,z,A,Option.bind_some,cond_true,cond_false,if_true,if_false,ite_true,ite_false,ZGa,and_self,true_and,and_true,eq_self,not_true_eq_false,not_false_eq_true,Bool.false_eq_true,reduceCtorEq]
  ·intro s hs
   cases hs
   simp only [Option.bind_some,cond_true,cond_false,if_true,if_false,ite_true,ite_false,ZGa,and_self,true_and,and_true,eq_self,not_true_eq_false,not_false_eq_true,Bool.false_eq_true,reduceCtorEq]
def ZGb:Nat→Int→Int→Int→Rs→Option ((Rs))
 | 0,_,_,_,_=>none
 | n + 1,a5,b6,i7,a =>
  cond (decide (i7 < b6)) (
   Option.bind (ZFb n a5 b6 i7 i7 a) fun s=>match s with
    | (a9,b,d,e) =>
     ZGb n a9 b (IntKind.i64.wrap (d + (1:Int))) e) (
   some a)
theorem ZIl {R:Type} (n:Nat)(a5 b6 i7:Int)(a:Rs)(k0:Rs→Option R):Tw (ZGb n a5 b6 i7 a) (Zlb n a5 b6 i7 a k0) (fun s=>match s with | a0=>k0 a0):=by
 induction n generalizing a5 b6 i7 a with
 | zero=>exact Zwa
 | succ n ih =>
  unfold ZGb Zlb
  refine Zha (fun _=>?_) (fun _=>?_)
  ·refine Zma (ZOl _ _ _ _ _ _ _) (fun s=>?_)
   rcases s with ⟨a9,b,d,e⟩
   ·exact ih _ _ _ _
  ·exact Zda rfl
def ZQa (a:Rs)(a2 b3:Int):Option (Rs) :=
 Option.bind (ZGb 9223372036854775808 a2 b3 (IntKind.i64.wrap (a2 + (1:Int))) a) fun s=>match s with
  | b =>
   some b
theorem Zzn {R:Type} (a:Rs)(a2 b3:Int)(k:Rs→Option R):Tw (ZQa a a2 b3) (Zqb 9223372036854775808 a a2 b3 k) (fun s=>match s with | a0=>k a0):=by
 unfold ZQa Zqb
 refine Zma (ZIl _ _ _ _ _ _) (fun s=>?_)
 rcases s with b
 ·exact Zda rfl
theorem ZNm:∀ (a:Rs)(a2 b3:Int)(y:Rs),ZQa a a2 b3=some y→∃ n,∀ (R:Type)(k:Rs→Option R),Zqb n a a2 b3 k=k y:=fun a a2 b3 y h=>⟨9223372036854775808,fun R k=>Zzn a a2 b3 k y h⟩
def Zld:Cs→Option (Rs)
 | [.os a 3,.int .i64 a2,.int .i64 b3,.fn (Fn.func 121) []]=>ZQa a a2 b3
 | _=>none
def Z8a:List (Nat × Cal):=[(121,.ctr ZKn)]
def Zmd:Ctr:=⟨[some (.s,true),none,none,none],Rs,Zld,Zcg,false,.d⟩
def ZVa:List (Nat × LC):=[(1,⟨[0,1,2,3,8],[],[],[],[]⟩),
 (4,⟨[0,1,2,3,8,9],[],[],[],[]⟩),
 (1001000,⟨[],[],[],[],[]⟩),
 (1004002,⟨[0,1,2,3,8],[],[],[],[]⟩),
 (4000007,⟨[0,1,2,3,8,9],[],[],[],[]⟩),
 (5000007,⟨[0,1,2,3,8,9],[],[],[],[]⟩)]
def ZVc:SP:=⟨Zea .undef [(0,(.ow 0)),(1,(.val (.int .i64))),(2,(.val (.int .i64))),(3,(.val (.fn 121 []))),(8,(.val (.int .i64))),(9,(.val (.int .i64)))] 0 53,[(.row 3)],[(.ow 0)]⟩
def ZYc:SP:=⟨Zea .undef [(0,(.ow 0)),(1,(.val (.int .i64))),(2,(.val (.int .i64))),(3,(.val (.fn 121 []))),(8,(.val (.int .i64))),(9,(.val (.int .i64)))] 0 53,[(.row 3)],[(.ow 0)]⟩
def Zbd:SP:=⟨Zea .undef [(0,(.ow 0)),(1,(.val (.int .i64))),(2,(.val (.int .i64))),(3,(.val (.fn 121 []))),(8,(.val (.int .i64)))] 0 53,[(.row 3)],[(.ow 0)]⟩
def Z5e:Nat→Option SP
 | 4=>some ZYc
 | 1=>some Zbd
 | _=>none
def Z0e:Nat→Option SP
 | 7=>some ZVc
 | _=>none
def ZSb (n:Nat)(ls:List Leaf)(R:Type)(k:Ex→St→Option R):Option R :=
 match ls with
 | [.int a,.int b,.int d,.int e,.rows f]=>Zkb n a b d e f (fun g i j l o=>k .normal ⟨Zea .undef [(0,(TV.ow 0)),(1,(TV.val (PV.int .i64 g))),(2,(TV.val (PV.int .i64 i))),(3,(TV.val (PV.fn (Fn.func 121) []))),(8,(TV.val (PV.int .i64 j))),(9,(TV.val (PV.int .i64 l)))] 0 53,[(Ob.row o 3)],[(TV.ow 0)]⟩)
 | _=>none
def Z5a (n:Nat)(ls:List Leaf)(R:Type)(k:Ex→St→Option R):Option R :=
 match ls with
 | [.int a,.int b,.int d,.int e,.rows f]=>Z4a n a b d e f (fun g i j l=>k (.exit 2) ⟨Zea .undef [(0,(TV.ow 0)),(1,(TV.val (PV.int .i64 g))),(2,(TV.val (PV.int .i64 i))),(3,(TV.val (PV.fn (Fn.func 121) []))),(8,(TV.val (PV.int .i64 j)))] 0 53,[(Ob.row l 3)],[(TV.ow 0)]⟩)
 | _=>none
def Z3a (n:Nat)(ls:List Leaf)(R:Type)(k:Ex→St→Option R):Option R :=
 match ls with
 | [.int a5,.int b6,.int i7,.rows a]=>Zlb n a5 b6 i7 a (fun b=>k (.exit 0) ⟨Zea .undef [] 0 53,[(Ob.row b 3)],[(TV.ow 0)]⟩)
 | _=>none
def Zdg (n key:Nat) (ls:List Leaf) (R:Type) (k:Ex→St→Option R):Option R :=
 match key with
 | 4=>Z5a n ls R k
 | 1=>Z3a n ls R k
 | _=>none
def Zbg (n key:Nat) (ls:List Leaf) (R:Type) (k:Ex→St→Option R):Option R :=
 match key with
 | 7=>ZSb n ls R k
 | _=>none
def Zdd:Code→Bool:=onKeys [7]
def ZZb:Nat→Loops:=patL (Zsa ZVa) Z5e Zdg (ZCa ZVa) Zdd Z0e Zbg
theorem Zvk (n:Nat)(a5 b6 i7:Int)(a:Rs)  (R:Type) (k:Ex→St→Option R) :
  Zza T G0 (Zja Z8a) (Zsa ZVa) (ZZb n) (Zia [1,0,0] (Zca Tryz.f223)) (Zoa Zbd [.int a5,.int b6,.int i7,.rows a]) R k=Z3a (n + 1) [.int a5,.int b6,.int i7,.rows a] R k:=by kernel_rfl
theorem Zfl (n:Nat)(a b d e:Int)(f:Rs)  (R:Type) (k:Ex→St→Option R) :
  Zza T G0 (Zja Z8a) (Zsa ZVa) (ZZb n) (Zia [1,0,0,1,0,0,1,0,0] (Zca Tryz.f223)) (Zoa ZYc [.int a,.int b,.int d,.int e,.rows f]) R k=Z5a (n + 1) [.int a,.int b,.int d,.int e,.rows f] R k:=by kernel_rfl
theorem Zjk (n:Nat)(a b d e:Int)(f:Rs)  (R:Type) (k:Ex→St→Option R) :
  Z0a T G0 (Zja Z8a) (ZCa ZVa) (ZZb n) (Zia [1,0,0,1,0,0,1,0,0,1] (Zca Tryz.f223)) (Zoa ZVc [.int a,.int b,.int d,.int e,.rows f]) R k=ZSb n [.int a,.int b,.int d,.int e,.rows f] R k:=by kernel_rfl
theorem ZPn (n:Nat)(a:Rs)(a2 b3:Int) :
  funK T G0 (Zja Z8a) (ZZb n) .d false [some (.s,true),none,none,none] (Zfa Tryz.f223) [.os a 3,.int .i64 a2,.int .i64 b3,.fn (Fn.func 121) []]=Zqb n  a a2 b3 (fun a0=>some (Zcg a0)):=by kernel_rfl
theorem Zfm {ps:Cs} {y:Rs} (h:Zld ps=some y):∃ (a:Rs) (a2:Int) (b3:Int),ps=[.os a 3,.int .i64 a2,.int .i64 b3,.fn (Fn.func 121) []]:=by
 unfold Zld at h
 split at h
 ·exact ⟨_,_,_,rfl⟩
 ·cases h
theorem Zte:Zpa (Zca Tryz.f223)=[Zia [1,0,0] (Zca Tryz.f223),Zia [1,0,0,1,0,0,1,0,0] (Zca Tryz.f223)]:=by kernel_rfl
theorem ZQk:(ZAa (Zca Tryz.f223)).filter Zdd=[Zia [1,0,0,1,0,0,1,0,0,1] (Zca Tryz.f223)]:=by kernel_rfl
theorem ZBk (hΓ:Zga Tryz.prog G0 Z8a) (hok:∀ (a:Rs)(a2 b3:Int)(y:Rs),ZQa a a2 b3=some y→∃ n,∀ (R:Type)(k:Rs→Option R),Zqb n  a a2 b3 k=k y):Zka Tryz.prog G0 223 Zmd:=by
 refine ZHa mixed tOk (Zna hΓ) Tryz.func223 rfl rfl rfl rfl (F:=Zfa Tryz.f223) (ZBa ZVa) (pat:=Z5e) (L:=Zdg) (ZFa ZVa) (on:=Zdd) (patj:=Z0e) (J:=Zbg) (fun c hc ls R k=>?_) (fun c hc p hp m ls R k r h=>?_) (fun c hc p hp m ls R k r h=>?_) (fun ps x h=>?_)
 ·rw [show (Zfa Tryz.f223).code=Zca Tryz.f223 from rfl,Zte] at hc
  simp only [List.mem_cons,List.not_mem_nil,or_false] at hc
  rcases hc with rfl | rfl
  ·show Z3a 0 ls R k=none
   unfold Z3a
   split
   ·rfl
   ·rfl
  ·show Z5a 0 ls R k=none
   unfold Z5a
   split
   ·rfl
   ·rfl
 ·rw [show (Zfa Tryz.f223).code=Zca Tryz.f223 from rfl,Zte] at hc
  simp only [List.mem_cons,List.not_mem_nil,or_false] at hc
  rcases hc with rfl | rfl
  ·obtain rfl:Zbd=p:=Option.some.inj hp
   change Z3a (m + 1) ls R k=some r at h
   have h':=h
   unfold Z3a at h'
   split at h'
   ·exact (Zvk m _ _ _ _ R k).trans h
   ·cases h'
  ·obtain rfl:ZYc=p:=Option.some.inj hp
   change Z5a (m + 1) ls R k=some r at h
   have h':=h
   unfold Z5a at h'
   split at h'
   ·exact (Zfl m _ _ _ _ _ R k).trans h
   ·cases h'
 ·rw [show (Zfa Tryz.f223).code=Zca Tryz.f223 from rfl,ZQk] at hc
  simp only [List.mem_cons,List.not_mem_nil,or_false] at hc
  rcases hc with rfl
  ·obtain rfl:ZVc=p:=Option.some.inj hp
   change ZSb m ls R k=some r at h
   have h':=h
   unfold ZSb at h'
   split at h'
   ·exact (Zjk m _ _ _ _ _ R k).trans h
   ·cases h'
 ·obtain ⟨y,hy,hx⟩:=Zba h
  cases hx
  obtain ⟨a,a2,b3,rfl⟩:=Zfm hy
  obtain ⟨n,hn⟩:=hok a a2 b3 y hy
  exact ⟨n,(ZPn n a a2 b3).trans (hn _ _)⟩
def Zod {R:Type}:Nat→Int→Int→Int→Int→Rs→(Int→Int→Int→Rs→Option R)→Option R
 | 0,_,_,_,_,_,_=>none
 | n + 1,a,blockSize23,b,d,e,k0 =>
  cond (decide (d≤a)) (
   none) (
   k0 a blockSize23 b e)
def Zic {R:Type}:Nat→Int→Int→Rs→(Rs→Option R)→Option R
 | 0,_,_,_,_=>none
 | n + 1,a,blockSize16,b,k0 =>
  cond (decide (blockSize16 < a)) (
   Zod n a blockSize16 0 (IntKind.i64.wrap ((2:Int) * blockSize16)) b
    (fun (d blockSize19 e:Int)(f:Rs) =>
     cond (decide ((IntKind.i64.wrap (e + blockSize19)) < d)) (
      none) (
      Zic n d (IntKind.i64.wrap (blockSize19 * (2:Int))) f k0))) (
   k0 b)
def Zgc {R:Type}:Nat→Int→Int→Int→Int→Rs→(Int→Int→Int→Rs→Option R)→Option R
 | 0,_,_,_,_,_,_=>none
 | n + 1,n9,blockSize10,a,b,d,k0 =>
  cond (decide (b≤n9)) (
   Option.bind (ZQa d a b) fun e =>
   Zgc n n9 blockSize10 b (IntKind.i64.wrap (b + blockSize10)) e k0) (
   k0 n9 blockSize10 a d)
def Zuc {R:Type} (n:Nat)(a:Rs)(n2:Int)(k:Rs→Option R):Option R :=
 Zgc n n2 20 0 20 a
  (fun (n3 blockSize4 a5:Int)(b:Rs) =>
   Option.bind (ZQa b a5 n3) fun y7 =>
   Zic n n3 blockSize4 y7 k)
def Zel (y:Rs):PV × Cs:=((PV.tuple []),[.os y 3])
def ZZe:Nat→Int→Int→Int→Int→Rs→Option ((Int × Int × Int × Rs))
 | 0,_,_,_,_,_=>none
 | n + 1,a,blockSize23,b,d,e =>
  cond (decide (d≤a)) (
   none) (
   some (a,blockSize23,b,e))
theorem Zgr {R:Type} (n:Nat)(a blockSize23 b d:Int)(e:Rs)(k0:Int→Int→Int→Rs→Option R):Tw (ZZe n a blockSize23 b d e) (Zod n a blockSize23 b d e k0) (fun s=>match s with | (a0,a1,a2,a3)=>k0 a0 a1 a2 a3):=by
 induction n generalizing a blockSize23 b d e with
 | zero=>exact Zwa
 | succ n ih =>
  unfold ZZe Zod
  refine Zha (fun _=>?_) (fun _=>?_)
  ·exact Zwa
  ·exact Zda rfl
def Zad:Nat→Int→Int→Rs→Option ((Rs))
 | 0,_,_,_=>none
 | n + 1,a,blockSize16,b =>
  cond (decide (blockSize16 < a)) (
   Option.bind (ZZe n a blockSize16 0 (IntKind.i64.wrap ((2:Int) * blockSize16)) b) fun s=>match s with
    | (d,blockSize19,e,f) =>
     cond (decide ((IntKind.i64.wrap (e + blockSize19)) < d)) (
      none) (
      Zad n d (IntKind.i64.wrap (blockSize19 * (2:Int))) f)) (
   some b)
theorem Z8q {R:Type} (n:Nat)(a blockSize16:Int)(b:Rs)(k0:Rs→Option R):Tw (Zad n a blockSize16 b) (Zic n a blockSize16 b k0) (fun s=>match s with | a0=>k0 a0):=by
 induction n generalizing a blockSize16 b with
 | zero=>exact Zwa
 | succ n ih =>
  unfold Zad Zic
  refine Zha (fun _=>?_) (fun _=>?_)
  ·refine Zma (Zgr _ _ _ _ _ _ _) (fun s=>?_)
   rcases s with ⟨d,blockSize19,e,f⟩
   ·refine Zha (fun _=>?_) (fun _=>?_)
    ·exact Zwa
    ·exact ih _ _ _
  ·exact Zda rfl
def Zfd:Nat→Int→Int→Int→Int→Rs→Option ((Int × Int × Int × Rs))
 | 0,_,_,_,_,_=>none
 | n + 1,n9,blockSize10,a,b,d =>
  cond (decide (b≤n9)) (
   Option.bind (ZQa d a b) fun e =>
   Zfd n n9 blockSize10 b (IntKind.i64.wrap (b + blockSize10)) e) (
   some (n9,blockSize10,a,d))
theorem Z0q {R:Type} (n:Nat)(n9 blockSize10 a b:Int)(d:Rs)(k0:Int→Int→Int→Rs→Option R):Tw (Zfd n n9 blockSize10 a b d) (Zgc n n9 blockSize10 a b d k0) (fun s=>match s with | (a0,a1,a2,a3)=>k0 a0 a1 a2 a3):=by
 induction n generalizing n9 blockSize10 a b d with
 | zero=>exact Zwa
 | succ n ih =>
  unfold Zfd Zgc
  refine Zha (fun _=>?_) (fun _=>?_)
  ·refine Zaa fun e _=>?_
   exact ih _ _ _ _ _
  ·exact Zda rfl
def ZHb (a:Rs)(n2:Int):Option (Rs) :=
 Option.bind (Zfd 9223372036854775808 n2 20 0 20 a) fun s=>match s with
  | (n3,blockSize4,a5,b) =>
   Option.bind (ZQa b a5 n3) fun y7 =>
   Option.bind (Zad 9223372036854775808 n3 blockSize4 y7) fun s=>match s with
    | d =>
     some d
theorem Zet {R:Type} (a:Rs)(n2:Int)(k:Rs→Option R):Tw (ZHb a n2) (Zuc 9223372036854775808 a n2 k) (fun s=>match s with | a0=>k a0):=by
 unfold ZHb Zuc
 refine Zma (Z0q _ _ _ _ _ _ _) (fun s=>?_)
 rcases s with ⟨n3,blockSize4,a5,b⟩
 ·refine Zaa fun y7 _=>?_
  refine Zma (Z8q _ _ _ _ _) (fun s=>?_)
  rcases s with d
  ·exact Zda rfl
theorem Zbt:∀ (a:Rs)(n2:Int)(y:Rs),ZHb a n2=some y→∃ n,∀ (R:Type)(k:Rs→Option R),Zuc n a n2 k=k y:=fun a n2 y h=>⟨9223372036854775808,fun R k=>Zet a n2 k y h⟩
def Z0f:Cs→Option (Rs)
 | [.os a 3,.int .i64 n2,.fn (Fn.func 121) []]=>ZHb a n2
 | _=>none
def ZNb:List (Nat × Cal):=[(223,.ctr Zmd)]
def Z1f:Ctr:=⟨[some (.s,true),none,none],Rs,Z0f,Zel,false,.d⟩
def Zbb:List (Nat × LC):=[(2,⟨[0,1,2,6,7,8],[],[],[],[]⟩),
 (1002000,⟨[0,1,2,6,7],[],[],[],[]⟩),
 (7,⟨[0,1,2,6],[],[],[],[]⟩),
 (9,⟨[0,1,2,6,7,8],[],[],[],[]⟩),
 (1007002,⟨[],[],[],[],[]⟩),
 (1009004,⟨[0,1,2,6,7],[],[],[],[]⟩)]
def Z7e:SP:=⟨Zea .undef [(0,(.ow 0)),(1,(.val (.int .i64))),(2,(.val (.fn 121 []))),(6,(.val (.int .i64))),(7,(.val (.int .i64))),(8,(.val (.int .i64)))] 0 63,[(.row 3)],[(.ow 0)]⟩
def Zdf:SP:=⟨Zea .undef [(0,(.ow 0)),(1,(.val (.int .i64))),(2,(.val (.fn 121 []))),(6,(.val (.int .i64)))] 0 63,[(.row 3)],[(.ow 0)]⟩
def Z9e:SP:=⟨Zea .undef [(0,(.ow 0)),(1,(.val (.int .i64))),(2,(.val (.fn 121 []))),(6,(.val (.int .i64))),(7,(.val (.int .i64))),(8,(.val (.int .i64)))] 0 63,[(.row 3)],[(.ow 0)]⟩
def ZLi:Nat→Option SP
 | 9=>some Z7e
 | 7=>some Zdf
 | 2=>some Z9e
 | _=>none
def Zzi:Nat→Option SP
 | _=>none
def Zzb (n:Nat)(ls:List Leaf)(R:Type)(k:Ex→St→Option R):Option R :=
 match ls with
 | [.int a,.int blockSize23,.int b,.int d,.rows e]=>Zod n a blockSize23 b d e (fun f g i j=>k (.exit 4) ⟨Zea .undef [(0,(TV.ow 0)),(1,(TV.val (PV.int .i64 f))),(2,(TV.val (PV.fn (Fn.func 121) []))),(6,(TV.val (PV.int .i64 g))),(7,(TV.val (PV.int .i64 i)))] 0 63,[(Ob.row j 3)],[(TV.ow 0)]⟩)
 | _=>none
def Zyb (n:Nat)(ls:List Leaf)(R:Type)(k:Ex→St→Option R):Option R :=
 match ls with
 | [.int a,.int blockSize16,.rows b]=>Zic n a blockSize16 b (fun d=>k (.exit 2) ⟨Zea .undef [] 0 63,[(Ob.row d 3)],[(TV.ow 0)]⟩)
 | _=>none
def ZAb (n:Nat)(ls:List Leaf)(R:Type)(k:Ex→St→Option R):Option R :=
 match ls with
 | [.int n9,.int blockSize10,.int a,.int b,.rows d]=>Zgc n n9 blockSize10 a b d (fun e f g i=>k (.exit 0) ⟨Zea .undef [(0,(TV.ow 0)),(1,(TV.val (PV.int .i64 e))),(2,(TV.val (PV.fn (Fn.func 121) []))),(6,(TV.val (PV.int .i64 f))),(7,(TV.val (PV.int .i64 g)))] 0 63,[(Ob.row i 3)],[(TV.ow 0)]⟩)
 | _=>none
def ZZk (n key:Nat) (ls:List Leaf) (R:Type) (k:Ex→St→Option R):Option R :=
 match key with
 | 9=>Zzb n ls R k
 | 7=>Zyb n ls R k
 | 2=>ZAb n ls R k
 | _=>none
def ZJk (n key:Nat) (ls:List Leaf) (R:Type) (k:Ex→St→Option R):Option R :=
 match key with
 | _=>none
def Z0j:Code→Bool:=fun _=>false
def ZDd:Nat→Loops:=patL (Zsa Zbb) ZLi ZZk (ZCa Zbb) Z0j Zzi ZJk
theorem ZOp (n:Nat)(n9 blockSize10 a b:Int)(d:Rs)  (R:Type) (k:Ex→St→Option R) :
  Zza T G0 (Zja ZNb) (Zsa Zbb) (ZDd n) (Zia [1,1,0,0,0] (Zca Tryz.f178)) (Zoa Z9e [.int n9,.int blockSize10,.int a,.int b,.rows d]) R k=ZAb (n + 1) [.int n9,.int blockSize10,.int a,.int b,.rows d] R k:=by kernel_rfl
theorem ZXp (n:Nat)(a blockSize16:Int)(b:Rs)  (R:Type) (k:Ex→St→Option R) :
  Zza T G0 (Zja ZNb) (Zsa Zbb) (ZDd n) (Zia [1,1,1,1,0,0] (Zca Tryz.f178)) (Zoa Zdf [.int a,.int blockSize16,.rows b]) R k=Zyb (n + 1) [.int a,.int blockSize16,.rows b] R k:=by kernel_rfl
theorem Z7p (n:Nat)(a blockSize23 b d:Int)(e:Rs)  (R:Type) (k:Ex→St→Option R) :
  Zza T G0 (Zja ZNb) (Zsa Zbb) (ZDd n) (Zia [1,1,1,1,0,0,1,0,1,0,0,0] (Zca Tryz.f178)) (Zoa Z7e [.int a,.int blockSize23,.int b,.int d,.rows e]) R k=Zzb (n + 1) [.int a,.int blockSize23,.int b,.int d,.rows e] R k:=by kernel_rfl
theorem Z0s (n:Nat)(a:Rs)(n2:Int) :
  funK T G0 (Zja ZNb) (ZDd n) .d false [some (.s,true),none,none] (Zfa Tryz.f178) [.os a 3,.int .i64 n2,.fn (Fn.func 121) []]=Zuc n  a n2 (fun a0=>some (Zel a0)):=by kernel_rfl
theorem Zfs {ps:Cs} {y:Rs} (h:Z0f ps=some y):∃ (a:Rs) (n2:Int),ps=[.os a 3,.int .i64 n2,.fn (Fn.func 121) []]:=by
 unfold Z0f at h
 split at h
 ·exact ⟨_,_,rfl⟩
 ·cases h
theorem Zyh:Zpa (Zca Tryz.f178)=[Zia [1,1,0,0,0] (Zca Tryz.f178),Zia [1,1,1,1,0,0] (Zca Tryz.f178),Zia [1,1,1,1,0,0,1,0,1,0,0,0] (Zca Tryz.f178)]:=by kernel_rfl
theorem ZSp (hΓ:Zga Tryz.prog G0 ZNb) (hok:∀ (a:Rs)(n2:Int)(y:Rs),ZHb a n2=some y→∃ n,∀ (R:Type)(k:Rs→Option R),Zuc n  a n2 k=k y):Zka Tryz.prog G0 178 Z1f:=by
 refine ZHa mixed tOk (Zna hΓ) Tryz.func178 rfl rfl rfl rfl (F:=Zfa Tryz.f178) (ZBa Zbb) (pat:=ZLi) (L:=ZZk) (ZFa Zbb) (on:=Z0j) (patj:=Zzi) (J:=ZJk) (fun c hc ls R k=>?_) (fun c hc p hp m ls R k r h=>?_) (fun c hc p hp m ls R k r h=>?_) (fun ps x h=>?_)
 ·rw [show (Zfa Tryz.f178).code=Zca Tryz.f178 from rfl,Zyh] at hc
  simp only [List.mem_cons,List.not_mem_nil,or_false] at hc
  rcases hc with rfl | rfl | rfl
  ·show ZAb 0 ls R k=none
   unfold ZAb
   split
   ·rfl
   ·rfl
  ·show Zyb 0 ls R k=none
   unfold Zyb
   split
   ·rfl
   ·rfl
  ·show Zzb 0 ls R k=none
   unfold Zzb
   split
   ·rfl
   ·rfl
 ·rw [show (Zfa Tryz.f178).code=Zca Tryz.f178 from rfl,Zyh] at hc
  simp only [List.mem_cons,List.not_mem_nil,or_false] at hc
  rcases hc with rfl | rfl | rfl
  ·obtain rfl:Z9e=p:=Option.some.inj hp
   change ZAb (m + 1) ls R k=some r at h
   have h':=h
   unfold ZAb at h'
   split at h'
   ·exact (ZOp m _ _ _ _ _ R k).trans h
   ·cases h'
  ·obtain rfl:Zdf=p:=Option.some.inj hp
   change Zyb (m + 1) ls R k=some r at h
   have h':=h
   unfold Zyb at h'
   split at h'
   ·exact (ZXp m _ _ _ R k).trans h
   ·cases h'
  ·obtain rfl:Z7e=p:=Option.some.inj hp
   change Zzb (m + 1) ls R k=some r at h
   have h':=h
   unfold Zzb at h'
   split at h'
   ·exact (Z7p m _ _ _ _ _ R k).trans h
   ·cases h'
 ·cases (List.mem_filter.1 hc).2
 ·obtain ⟨y,hy,hx⟩:=Zba h
  cases hx
  obtain ⟨a,n2,rfl⟩:=Zfs hy
  obtain ⟨n,hn⟩:=hok a n2 y hy
  exact ⟨n,(Z0s n a n2).trans (hn _ _)⟩
def Zec {R:Type} (x1:Rs)(k:Rs→Option R):Option R :=
 Option.bind (ZHb x1 (x1.length:Int)) fun y2 =>
 k y2
def ZYj (y:Rs):PV × Cs:=((PV.tuple []),[.os y 3])
def Zpd (x1:Rs):Option (Rs):=Zec x1 fun a0=>some a0
def Zbf:Cs→Option (Rs)
 | [.os x1 3,.fn (Fn.func 121) []]=>Zpd x1
 | _=>none
def Zaf:List (Nat × Cal):=[(178,.ctr Z1f)]
def Zff:Ctr:=⟨[some (.s,true),none],Rs,Zbf,ZYj,false,.d⟩
theorem ZPr (x1:Rs) :
  funK T G0 (Zja Zaf) noL .d false [some (.s,true),none] (Zfa Tryz.f120) [.os x1 3,.fn (Fn.func 121) []]=Zec  x1 (fun a0=>some (ZYj a0)):=by kernel_rfl
theorem Zdr {ps:Cs} {y:Rs} (h:Zbf ps=some y):∃ (x1:Rs),ps=[.os x1 3,.fn (Fn.func 121) []]:=by
 unfold Zbf at h
 split at h
 ·exact ⟨_,rfl⟩
 ·cases h
theorem ZSq {R:Type} (x1:Rs)(k:Rs→Option R):Zec x1 k=Option.bind (Zec x1 fun a0=>some a0) fun y=>k y:=by
 unfold Zec
 first | rfl | simp only [Option.bind_assoc,Zya,Zxa,Option.bind_some,Option.bind_none]
theorem Znp (hΓ:Zga Tryz.prog G0 Zaf):Zka Tryz.prog G0 120 Zff:=by
 refine ZIa mixed tOk (Zna hΓ) Tryz.func120 rfl rfl rfl rfl (F:=Zfa Tryz.f120) (fun ps x h=>?_)
 obtain ⟨y,hy,hx⟩:=Zba h
 cases hx
 obtain ⟨x1,rfl⟩:=Zdr hy
 have hy':Zpd x1=some y:=hy
 refine ⟨noL,ZKa _,(ZPr x1).trans ?_⟩
 unfold Zpd at hy'
 rw [ZSq,hy']
 rfl
def ZNe {R:Type} (s1:Rs)(k:Rs→Option R):Option R :=
 cond (List.isEmpty s1) (
  meet (
   k []) (
   if ZJa 3 s1=true then
    if (([]:Rs).length + s1.length) * 24≤Zla then
     k (([]:Rs) ++ s1)
    else none
   else none)) (
  if ZJa 3 s1=true then
   if (([]:Rs).length + s1.length) * 24≤Zla then
    k (([]:Rs) ++ s1)
   else none
  else none)
def Z9r (y:Rs):PV × Cs:=((PV.os y 3),[])
def ZGl:Cs→Option (Rs)
 | [.fs s1]=>ZOa 3 24 s1
 | _=>none
def ZFr:List (Nat × Cal):=[]
def ZLl:Ctr:=⟨[none],Rs,ZGl,Z9r,false,.s⟩
theorem ZzA (s1:Rs) :
  funK T G0 (Zja ZFr) noL .s false [none] (Zfa Tryz.f181) [.fs s1]=ZNe  s1 (fun a0=>some (Z9r a0)):=by kernel_rfl
theorem ZXz {ps:Cs} {y:Rs} (h:ZGl ps=some y):∃ (s1:Rs),ps=[.fs s1]:=by
 unfold ZGl at h
 split at h
 ·exact ⟨_,rfl⟩
 ·cases h
theorem Zow (hΓ:Zga Tryz.prog G0 ZFr) (hok:∀ (s1 y:Rs),ZOa 3 24 s1=some y→∀ (R:Type)(k:Rs→Option R),ZNe  s1 k=k y):Zka Tryz.prog G0 181 ZLl:=by
 refine ZIa mixed tOk (Zna hΓ) Tryz.func181 rfl rfl rfl rfl (F:=Zfa Tryz.f181) (fun ps x h=>?_)
 obtain ⟨y,hy,hx⟩:=Zba h
 cases hx
 obtain ⟨s1,rfl⟩:=ZXz hy
 refine ⟨noL,ZKa _,(ZzA s1).trans (hok s1 y hy _ _)⟩
theorem ZTA:∀ (s y:Rs),ZOa 3 24 s=some y→∀ (R:Type)(k:Rs→Option R),ZNe s k=k y:=by
 intro s y h R k
 unfold ZOa at h
 split at h
 ·rename_i hh
  cases h
  cases s with
  | nil=>simp [ZNe,ZJa,Zla,ZGa]
  | cons a l =>
   unfold ZNe
   rw [List.isEmpty_cons,cond_false,if_pos hh.1,if_pos (by simpa [Zla] using hh.2)]
   rfl
 ·cases h
def Zde {R:Type} (h1 h2 h3:Int)(k:Bool→Option R):Option R :=
 k (h2 == h3)
def ZLq (y:Bool):PV × Cs:=((PV.bool y),[])
def Zek (h1 h2 h3:Int):Option (Bool):=Zde h1 h2 h3 fun a0=>some a0
def Zmc:Cs→Option (Bool)
 | [.agg [.int .i64 h1,.int .i64 h2,.int .i64 h3]]=>Zek h1 h2 h3
 | _=>none
def Zgk:List (Nat × Cal):=[(1000000001,ro_I)]
def Zfg:Ctr:=⟨[none],Bool,Zmc,ZLq,true,.d⟩
theorem ZCy (h1 h2 h3:Int) :
  funK T G0 (Zja Zgk) noL .d true [none] (Zfa Tryz.f182) [.agg [.int .i64 h1,.int .i64 h2,.int .i64 h3]]=Zde  h1 h2 h3 (fun a0=>some (ZLq a0)):=by kernel_rfl
theorem Zdy {ps:Cs} {y:Bool} (h:Zmc ps=some y):∃ (h1:Int) (h2:Int) (h3:Int),ps=[.agg [.int .i64 h1,.int .i64 h2,.int .i64 h3]]:=by
 unfold Zmc at h
 split at h
 ·exact ⟨_,_,_,rfl⟩
 ·cases h
theorem Z6x {R:Type} (h1 h2 h3:Int)(k:Bool→Option R):Zde h1 h2 h3 k=Option.bind (Zde h1 h2 h3 fun a0=>some a0) fun y=>k y:=by
 unfold Zde
 first | rfl | simp only [Option.bind_assoc,Zya,Zxa,Option.bind_some,Option.bind_none]
theorem ZLv (hΓ:Zga Tryz.prog G0 Zgk):Zka Tryz.prog G0 182 Zfg:=by
 refine ZIa mixed tOk (Zna hΓ) Tryz.func182 rfl rfl rfl rfl (F:=Zfa Tryz.f182) (fun ps x h=>?_)
 obtain ⟨y,hy,hx⟩:=Zba h
 cases hx
 obtain ⟨h1,h2,h3,rfl⟩:=Zdy hy
 have hy':Zek h1 h2 h3=some y:=hy
 refine ⟨noL,ZKa _,(ZCy h1 h2 h3).trans ?_⟩
 unfold Zek at hy'
 rw [Z6x,hy']
 rfl
def ZPc {R:Type}:Nat→Rs→Int→Int→(Int→Option R)→(Unit→Option R)→Option R
 | 0,_,_,_,_,_=>none
 | n + 1,s3,i4,i5,k0,k1 =>
  cond (decide (i5 < i4)) (
   Option.bind (idx s3 i5) fun e6 =>
   if e6.length=3 then
    Option.bind (Zra e6 0 3) fun p7 =>
    Option.bind (Zmc [p7]) fun y8 =>
    cond y8 (
     k0 i5) (
     ZPc n s3 i4 (IntKind.i64.wrap (i5 + (1:Int))) k0 k1)
   else none) (
   k1 ())
def Z5c {R:Type} (n:Nat)(s1:Rs)(k:Int→Option R):Option R :=
 ZPc n s1 (s1.length:Int) 0 k
  (fun (_:Unit) =>
   k (-1))
def ZRm (y:Int):PV × Cs:=((PV.int .i64 y),[])
def ZGd:Nat→Rs→Int→Int→Option ((Int) ⊕ (Unit))
 | 0,_,_,_=>none
 | n + 1,s3,i4,i5 =>
  cond (decide (i5 < i4)) (
   Option.bind (idx s3 i5) fun e6 =>
   if e6.length=3 then
    Option.bind (Zra e6 0 3) fun p7 =>
    Option.bind (Zmc [p7]) fun y8 =>
    cond y8 (
     some (Sum.inl i5)) (
     ZGd n s3 i4 (IntKind.i64.wrap (i5 + (1:Int))))
   else none) (
   some (Sum.inr ()))
theorem Z7s {R:Type} (n:Nat)(s3:Rs)(i4 i5:Int)(k0:Int→Option R)(k1:Unit→Option R):Tw (ZGd n s3 i4 i5) (ZPc n s3 i4 i5 k0 k1) (fun s=>match s with | (Sum.inl a0)=>k0 a0 | (Sum.inr _)=>k1 ()):=by
 induction n generalizing s3 i4 i5 with
 | zero=>exact Zwa
 | succ n ih =>
  unfold ZGd ZPc
  refine Zha (fun _=>?_) (fun _=>?_)
  ·refine Zaa fun e6 _=>?_
   refine Zqa fun _=>?_
   refine Zaa fun p7 _=>?_
   refine Zaa fun y8 _=>?_
   refine Zha (fun _=>?_) (fun _=>?_)
   ·exact Zda rfl
   ·exact ih _ _ _
  ·exact Zda rfl
def ZBb (s1:Rs):Option (Int) :=
 Option.bind (ZGd 9223372036854775808 s1 (s1.length:Int) 0) fun s=>match s with
  | (Sum.inl i2) =>
   some i2
  | (Sum.inr _) =>
   some (-1)
theorem Zhv {R:Type} (s1:Rs)(k:Int→Option R):Tw (ZBb s1) (Z5c 9223372036854775808 s1 k) (fun s=>match s with | a0=>k a0):=by
 unfold ZBb Z5c
 refine Zma (Z7s _ _ _ _ _ _) (fun s=>?_)
 rcases s with i2 | ⟨⟩
 ·exact Zda rfl
 ·exact Zda rfl
theorem Z9v:∀ (s1:Rs)(y:Int),ZBb s1=some y→∃ n,∀ (R:Type)(k:Int→Option R),Z5c n s1 k=k y:=fun s1 y h=>⟨9223372036854775808,fun R k=>Zhv s1 k y h⟩
def Zbh:Cs→Option (Int)
 | [.fs s1,.fn (Fn.func 182) []]=>ZBb s1
 | _=>none
def Zoe:List (Nat × Cal):=[(182,.ctr Zfg)]
def Zqh:Ctr:=⟨[none,none],Int,Zbh,ZRm,true,.d⟩
def Zqc:List (Nat × LC):=[(2,⟨[0,1,7,8],[],[],[],[]⟩),
 (2000002,⟨[4],[],[],[],[]⟩),
 (1002000,⟨[],[],[],[],[]⟩)]
def Zog:SP:=⟨Zea .undef [(0,(.val .fs)),(1,(.val (.fn 182 []))),(7,(.val (.int .i64))),(8,(.val (.int .i64)))] 0 19,[],[]⟩
def ZNk:Nat→Option SP
 | 2=>some Zog
 | _=>none
def Z3j:Nat→Option SP
 | _=>none
def ZUb (n:Nat)(ls:List Leaf)(R:Type)(k:Ex→St→Option R):Option R :=
 match ls with
 | [.rows s3,.int i4,.int i5]=>ZPc n s3 i4 i5 (fun a=>k .ret ⟨Zea .undef [(4,(TV.val (PV.int .i64 a)))] 0 19,[],[]⟩)
   (fun _=>k (.exit 0) ⟨Zea .undef [] 0 19,[],[]⟩)
 | _=>none
def ZMm (n key:Nat) (ls:List Leaf) (R:Type) (k:Ex→St→Option R):Option R :=
 match key with
 | 2=>ZUb n ls R k
 | _=>none
def Znn (n key:Nat) (ls:List Leaf) (R:Type) (k:Ex→St→Option R):Option R :=
 match key with
 | _=>none
def ZZl:Code→Bool:=fun _=>false
def ZQm:Nat→Loops:=patL (Zsa Zqc) ZNk ZMm (ZCa Zqc) ZZl Z3j Znn
theorem ZRr (n:Nat)(s3:Rs)(i4 i5:Int)  (R:Type) (k:Ex→St→Option R) :
  Zza T G0 (Zja Zoe) (Zsa Zqc) (ZQm n) (Zia [1,0,1,0,0] (Zca Tryz.f225)) (Zoa Zog [.rows s3,.int i4,.int i5]) R k=ZUb (n + 1) [.rows s3,.int i4,.int i5] R k:=by kernel_rfl
theorem Zmv (n:Nat)(s1:Rs) :
  funK T G0 (Zja Zoe) (ZQm n) .d true [none,none] (Zfa Tryz.f225) [.fs s1,.fn (Fn.func 182) []]=Z5c n  s1 (fun a0=>some (ZRm a0)):=by kernel_rfl
theorem Zru {ps:Cs} {y:Int} (h:Zbh ps=some y):∃ (s1:Rs),ps=[.fs s1,.fn (Fn.func 182) []]:=by
 unfold Zbh at h
 split at h
 ·exact ⟨_,rfl⟩
 ·cases h
theorem Znj:Zpa (Zca Tryz.f225)=[Zia [1,0,1,0,0] (Zca Tryz.f225)]:=by kernel_rfl
theorem Z4r (hΓ:Zga Tryz.prog G0 Zoe) (hok:∀ (s1:Rs)(y:Int),ZBb s1=some y→∃ n,∀ (R:Type)(k:Int→Option R),Z5c n  s1 k=k y):Zka Tryz.prog G0 225 Zqh:=by
 refine ZHa mixed tOk (Zna hΓ) Tryz.func225 rfl rfl rfl rfl (F:=Zfa Tryz.f225) (ZBa Zqc) (pat:=ZNk) (L:=ZMm) (ZFa Zqc) (on:=ZZl) (patj:=Z3j) (J:=Znn) (fun c hc ls R k=>?_) (fun c hc p hp m ls R k r h=>?_) (fun c hc p hp m ls R k r h=>?_) (fun ps x h=>?_)
 ·rw [show (Zfa Tryz.f225).code=Zca Tryz.f225 from rfl,Znj] at hc
  simp only [List.mem_cons,List.not_mem_nil,or_false] at hc
  rcases hc with rfl
  ·show ZUb 0 ls R k=none
   unfold ZUb
   split
   ·rfl
   ·rfl
 ·rw [show (Zfa Tryz.f225).code=Zca Tryz.f225 from rfl,Znj] at hc
  simp only [List.mem_cons,List.not_mem_nil,or_false] at hc
  rcases hc with rfl
  ·obtain rfl:Zog=p:=Option.some.inj hp
   change ZUb (m + 1) ls R k=some r at h
   have h':=h
   unfold ZUb at h'
   split at h'
   ·exact (ZRr m _ _ _ R k).trans h
   ·cases h'
 ·cases (List.mem_filter.1 hc).2
 ·obtain ⟨y,hy,hx⟩:=Zba h
  cases hx
  obtain ⟨s1,rfl⟩:=Zru hy
  obtain ⟨n,hn⟩:=hok s1 y hy
  exact ⟨n,(Zmv n s1).trans (hn _ _)⟩
def ZIb {R:Type}:Nat→Int→Int→Rs→(Int→Rs→Option R)→Option R
 | 0,_,_,_,_=>none
 | n + 1,i5,j6,a,k0 =>
  cond (decide (j6 < (a.length:Int))) (
   if 0≤j6∧j6 < (a.length:Int) then
    Option.bind (a[(Int.toNat j6)]?) fun e8 =>
    Option.bind (Zra e8 0 3) fun p9 =>
    if (PV.isAgg p9 3)=true then
     Option.bind (Zmc [p9]) fun b =>
     cond (!b) (
      if 0≤i5∧i5 < (a.length:Int) then
       if (PV.isAgg p9 3)=true then
        Option.bind (a[(Int.toNat i5)]?) fun d =>
        ZIb n (IntKind.i64.wrap (i5 + (1:Int))) (IntKind.i64.wrap (j6 + (1:Int))) (List.set a (Int.toNat i5) (PV.cells p9)) k0
       else none
      else none) (
      ZIb n i5 (IntKind.i64.wrap (j6 + (1:Int))) a k0)
    else none
   else none) (
   k0 i5 a)
def ZIc {R:Type} (n:Nat)(s1:Rs)(k:Rs→Option R):Option R :=
 Option.bind (ZBb s1) fun y2 =>
 cond (y2 ==(-1:Int)) (
  k s1) (
  ZIb n y2 (IntKind.i64.wrap (y2 + (1:Int))) s1
   (fun (i3:Int)(a:Rs) =>
    if (0:Int)≤i3∧i3≤(a.length:Int)∧(a.length:Int)=(a.length:Int)∧(a.length:Int)≤(a.length:Int)∧3=3 then
     if (0:Int)≤(0:Int)∧(0:Int)≤i3∧i3=i3∧i3≤((((a.take (Int.toNat i3)) ++ (List.replicate (Int.toNat ((a.length:Int) - i3)) [(PV.int .i64 0),(PV.int .i64 0),(PV.int .i64 0)])) ++ (a.drop ((Int.toNat i3) + (Int.toNat ((a.length:Int) - i3))))).length:Int)∧3=3 then
      k (((((a.take (Int.toNat i3)) ++ (List.replicate (Int.toNat ((a.length:Int) - i3)) [(PV.int .i64 0),(PV.int .i64 0),(PV.int .i64 0)])) ++ (a.drop ((Int.toNat i3) + (Int.toNat ((a.length:Int) - i3))))).drop 0).take (Int.toNat (i3 - (0:Int))))
     else none
    else none))
def Z3l (y:Rs):PV × Cs:=((PV.os y 3),[])
def Zkc:Nat→Int→Int→Rs→Option ((Int × Rs))
 | 0,_,_,_=>none
 | n + 1,i5,j6,a =>
  cond (decide (j6 < (a.length:Int))) (
   if 0≤j6∧j6 < (a.length:Int) then
    Option.bind (a[(Int.toNat j6)]?) fun e8 =>
    Option.bind (Zra e8 0 3) fun p9 =>
    if (PV.isAgg p9 3)=true then
     Option.bind (Zmc [p9]) fun b =>
     cond (!b) (
      if 0≤i5∧i5 < (a.length:Int) then
       if (PV.isAgg p9 3)=true then
        Option.bind (a[(Int.toNat i5)]?) fun d =>
        Zkc n (IntKind.i64.wrap (i5 + (1:Int))) (IntKind.i64.wrap (j6 + (1:Int))) (List.set a (Int.toNat i5) (PV.cells p9))
       else none
      else none) (
      Zkc n i5 (IntKind.i64.wrap (j6 + (1:Int))) a)
    else none
   else none) (
   some (i5,a))
theorem Zls {R:Type} (n:Nat)(i5 j6:Int)(a:Rs)(k0:Int→Rs→Option R):Tw (Zkc n i5 j6 a) (ZIb n i5 j6 a k0) (fun s=>match s with | (a0,a1)=>k0 a0 a1):=by
 induction n generalizing i5 j6 a with
 | zero=>exact Zwa
 | succ n ih =>
  unfold Zkc ZIb
  refine Zha (fun _=>?_) (fun _=>?_)
  ·refine Zqa fun _=>?_
   refine Zaa fun e8 _=>?_
   refine Zaa fun p9 _=>?_
   refine Zqa fun _=>?_
   refine Zaa fun b _=>?_
   refine Zha (fun _=>?_) (fun _=>?_)
   ·refine Zqa fun _=>?_
    refine Zqa fun _=>?_
    refine Zaa fun d _=>?_
    exact ih _ _ _
   ·exact ih _ _ _
  ·exact Zda rfl
def ZVb (s1:Rs):Option (Rs) :=
 Option.bind (ZBb s1) fun y2 =>
 cond (y2 ==(-1:Int)) (
  some s1) (
  Option.bind (Zkc 9223372036854775808 y2 (IntKind.i64.wrap (y2 + (1:Int))) s1) fun s=>match s with
   | (i3,a) =>
    if (0:Int)≤i3∧i3≤(a.length:Int)∧(a.length:Int)=(a.length:Int)∧(a.length:Int)≤(a.length:Int)∧3=3 then
     if (0:Int)≤(0:Int)∧(0:Int)≤i3∧i3=i3∧i3≤((((a.take (Int.toNat i3)) ++ (List.replicate (Int.toNat ((a.length:Int) - i3)) [(PV.int .i64 0),(PV.int .i64 0),(PV.int .i64 0)])) ++ (a.drop ((Int.toNat i3) + (Int.toNat ((a.length:Int) - i3))))).length:Int)∧3=3 then
      some (((((a.take (Int.toNat i3)) ++ (List.replicate (Int.toNat ((a.length:Int) - i3)) [(PV.int .i64 0),(PV.int .i64 0),(PV.int .i64 0)])) ++ (a.drop ((Int.toNat i3) + (Int.toNat ((a.length:Int) - i3))))).drop 0).take (Int.toNat (i3 - (0:Int))))
     else none
    else none)
theorem Zeu {R:Type} (s1:Rs)(k:Rs→Option R):Tw (ZVb s1) (ZIc 9223372036854775808 s1 k) (fun s=>match s with | a0=>k a0):=by
 unfold ZVb ZIc
 refine Zaa fun y2 _=>?_
 refine Zha (fun _=>?_) (fun _=>?_)
 ·exact Zda rfl
 ·refine Zma (Zls _ _ _ _ _) (fun s=>?_)
  rcases s with ⟨i3,a⟩
  ·refine Zqa fun _=>?_
   refine Zqa fun _=>?_
   exact Zda rfl
theorem Zou:∀ (s1 y:Rs),ZVb s1=some y→∃ n,∀ (R:Type)(k:Rs→Option R),ZIc n s1 k=k y:=fun s1 y h=>⟨9223372036854775808,fun R k=>Zeu s1 k y h⟩
def Z0g:Cs→Option (Rs)
 | [.os s1 3,.fn (Fn.func 182) []]=>ZVb s1
 | _=>none
def Z3d:List (Nat × Cal):=[(225,.ctr Zqh),(182,.ctr Zfg)]
def ZUg:Ctr:=⟨[some (.s,false),none],Rs,Z0g,Z3l,false,.s⟩
def Zlc:List (Nat × LC):=[(5,⟨[0,1,5,6],[],[],[],[]⟩),
 (1005000,⟨[0,5],[],[],[],[]⟩)]
def ZYf:SP:=⟨Zea .undef [(0,(.ow 0)),(1,(.val (.fn 182 []))),(5,(.val (.int .i64))),(6,(.val (.int .i64)))] 0 42,[(.row 3)],[]⟩
def ZXj:Nat→Option SP
 | 5=>some ZYf
 | _=>none
def Zrj:Nat→Option SP
 | _=>none
def ZJb (n:Nat)(ls:List Leaf)(R:Type)(k:Ex→St→Option R):Option R :=
 match ls with
 | [.int i5,.int j6,.rows a]=>ZIb n i5 j6 a (fun b d=>k (.exit 0) ⟨Zea .undef [(0,(TV.ow 0)),(5,(TV.val (PV.int .i64 b)))] 0 42,[(Ob.row d 3)],[]⟩)
 | _=>none
def Z6l (n key:Nat) (ls:List Leaf) (R:Type) (k:Ex→St→Option R):Option R :=
 match key with
 | 5=>ZJb n ls R k
 | _=>none
def ZTl (n key:Nat) (ls:List Leaf) (R:Type) (k:Ex→St→Option R):Option R :=
 match key with
 | _=>none
def ZIk:Code→Bool:=fun _=>false
def ZYl:Nat→Loops:=patL (Zsa Zlc) ZXj Z6l (ZCa Zlc) ZIk Zrj ZTl
theorem Zer (n:Nat)(i5 j6:Int)(a:Rs)  (R:Type) (k:Ex→St→Option R) :
  Zza T G0 (Zja Z3d) (Zsa Zlc) (ZYl n) (Zia [1,1,1,0,1,0,0] (Zca Tryz.f180)) (Zoa ZYf [.int i5,.int j6,.rows a]) R k=ZJb (n + 1) [.int i5,.int j6,.rows a] R k:=by kernel_rfl
theorem ZCu (n:Nat)(s1:Rs) :
  funK T G0 (Zja Z3d) (ZYl n) .s false [some (.s,false),none] (Zfa Tryz.f180) [.os s1 3,.fn (Fn.func 182) []]=ZIc n  s1 (fun a0=>some (Z3l a0)):=by kernel_rfl
theorem Zat {ps:Cs} {y:Rs} (h:Z0g ps=some y):∃ (s1:Rs),ps=[.os s1 3,.fn (Fn.func 182) []]:=by
 unfold Z0g at h
 split at h
 ·exact ⟨_,rfl⟩
 ·cases h
theorem Zxi:Zpa (Zca Tryz.f180)=[Zia [1,1,1,0,1,0,0] (Zca Tryz.f180)]:=by kernel_rfl
theorem ZTq (hΓ:Zga Tryz.prog G0 Z3d) (hok:∀ (s1 y:Rs),ZVb s1=some y→∃ n,∀ (R:Type)(k:Rs→Option R),ZIc n  s1 k=k y):Zka Tryz.prog G0 180 ZUg:=by
 refine ZHa mixed tOk (Zna hΓ) Tryz.func180 rfl rfl rfl rfl (F:=Zfa Tryz.f180) (ZBa Zlc) (pat:=ZXj) (L:=Z6l) (ZFa Zlc) (on:=ZIk) (patj:=Zrj) (J:=ZTl) (fun c hc ls R k=>?_) (fun c hc p hp m ls R k r h=>?_) (fun c hc p hp m ls R k r h=>?_) (fun ps x h=>?_)
 ·rw [show (Zfa Tryz.f180).code=Zca Tryz.f180 from rfl,Zxi] at hc
  simp only [List.mem_cons,List.not_mem_nil,or_false] at hc
  rcases hc with rfl
  ·show ZJb 0 ls R k=none
   unfold ZJb
   split
   ·rfl
   ·rfl
 ·rw [show (Zfa Tryz.f180).code=Zca Tryz.f180 from rfl,Zxi] at hc
  simp only [List.mem_cons,List.not_mem_nil,or_false] at hc
  rcases hc with rfl
  ·obtain rfl:ZYf=p:=Option.some.inj hp
   change ZJb (m + 1) ls R k=some r at h
   have h':=h
   unfold ZJb at h'
   split at h'
   ·exact (Zer m _ _ _ R k).trans h
   ·cases h'
 ·cases (List.mem_filter.1 hc).2
 ·obtain ⟨y,hy,hx⟩:=Zba h
  cases hx
  obtain ⟨s1,rfl⟩:=Zat hy
  obtain ⟨n,hn⟩:=hok s1 y hy
  exact ⟨n,(ZCu n s1).trans (hn _ _)⟩
def Zee {R:Type} (a1 a2 a3 b4 b5 b6:Int)(k:Int→Option R):Option R :=
 Option.bind (ZGh a1 b4) fun y7 =>
 k y7
def Zxq (y:Int):PV × Cs:=((PV.int .i64 y),[])
def Zkk (a1 a2 a3 b4 b5 b6:Int):Option (Int):=Zee a1 a2 a3 b4 b5 b6 fun a0=>some a0
def Zgd:Cs→Option (Int)
 | [.agg [.int .i64 a1,.int .i64 a2,.int .i64 a3],.agg [.int .i64 b4,.int .i64 b5,.int .i64 b6]]=>Zkk a1 a2 a3 b4 b5 b6
 | _=>none
def Zak:List (Nat × Cal):=[(122,.ctr Zsl),(1000000002,ro_I),(1000000003,ro_I)]
def Z8j:Ctr:=⟨[none,none],Int,Zgd,Zxq,true,.d⟩
theorem ZJy (a1 a2 a3 b4 b5 b6:Int) :
  funK T G0 (Zja Zak) noL .d true [none,none] (Zfa Tryz.f184) [.agg [.int .i64 a1,.int .i64 a2,.int .i64 a3],.agg [.int .i64 b4,.int .i64 b5,.int .i64 b6]]=Zee  a1 a2 a3 b4 b5 b6 (fun a0=>some (Zxq a0)):=by kernel_rfl
theorem Zey {ps:Cs} {y:Int} (h:Zgd ps=some y):∃ (a1:Int) (a2:Int) (a3:Int) (b4:Int) (b5:Int) (b6:Int),ps=[.agg [.int .i64 a1,.int .i64 a2,.int .i64 a3],.agg [.int .i64 b4,.int .i64 b5,.int .i64 b6]]:=by
 unfold Zgd at h
 split at h
 ·exact ⟨_,_,_,_,_,_,rfl⟩
 ·cases h
theorem Z9x {R:Type} (a1 a2 a3 b4 b5 b6:Int)(k:Int→Option R):Zee a1 a2 a3 b4 b5 b6 k=Option.bind (Zee a1 a2 a3 b4 b5 b6 fun a0=>some a0) fun y=>k y:=by
 unfold Zee
 first | rfl | simp only [Option.bind_assoc,Zya,Zxa,Option.bind_some,Option.bind_none]
theorem ZHv (hΓ:Zga Tryz.prog G0 Zak):Zka Tryz.prog G0 184 Z8j:=by
 refine ZIa mixed tOk (Zna hΓ) Tryz.func184 rfl rfl rfl rfl (F:=Zfa Tryz.f184) (fun ps x h=>?_)
 obtain ⟨y,hy,hx⟩:=Zba h
 cases hx
 obtain ⟨a1,a2,a3,b4,b5,b6,rfl⟩:=Zey hy
 have hy':Zkk a1 a2 a3 b4 b5 b6=some y:=hy
 refine ⟨noL,ZKa _,(ZJy a1 a2 a3 b4 b5 b6).trans ?_⟩
 unfold Zkk at hy'
 rw [Z9x,hy']
 rfl
end
end Go.Proofs.YtgpjfmihogaooaaGreatDoorV
namespace Go.Proofs.YtgpjfmihogaooaaGreatDoorV
open Go
theorem ZrH:∀ (p1 p2 p3 p4 p5 p6:List (List PV)) (p7:Int) (v8:PV) (y:Bool),sStill p1 p2 p3 p4 p5 p6 p7 v8=some y→∃ n,∀ (R:Type)(k:Bool→Option R),ZKr n p1 p2 p3 p4 p5 p6 p7 v8 k=k y:=by
 intro p1 p2 p3 p4 p5 p6 p7 v8 y h
 unfold sStill at h
 split at h
 ·cases h
  exact ⟨1,fun R k=>rfl⟩
 ·cases h
end Go.Proofs.YtgpjfmihogaooaaGreatDoorV
