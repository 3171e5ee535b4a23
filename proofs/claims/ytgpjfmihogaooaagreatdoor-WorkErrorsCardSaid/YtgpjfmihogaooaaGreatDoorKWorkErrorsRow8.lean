/- Of this claim's texts what it needs, part 8. -/
import Derived.Lib.ItoaNum
import Derived.Lib.AtoiAllCases
import Derived.Lib.IndexMore
import Derived.Lib.SlTrimSet
import Derived.Lib.SplitLaws
import Derived.Lib.Split
import Derived.Lib.Join
import Derived.Test.YtgpjfmihogaooaaGreatDoorKWorkErrorsRow7
namespace Go.Proofs.YtgpjfmihogaooaaGreatDoorV
open Go
def text (f:List UInt8):ByteArray:=⟨f.toArray⟩
def decL:Nat→Nat→List UInt8
 | 0,_=>[]
 | f + 1,u=>if u < 10 then [UInt8.ofNat (48 + u)] else decL f (u / 10) ++ [UInt8.ofNat (48 + u % 10)]
theorem decL_eq:∀ (f u:Nat),u < 10 ^ f→0 < f→decL f u=Lib.decDigits u
 | 0,u,_,h=>by omega
 | f + 1,u,h,_=>by
  rw [Lib.decDigits]
  unfold decL
  split
  ·rfl
  ·rename_i h10
   cases f with
   | zero=>simp at h; omega
   | succ f =>
    rw [decL_eq (f + 1) (u / 10) (by rw [Nat.pow_succ] at h; omega) (by omega)]
def dig (n:Int):List UInt8:=if n < 0 then 45 :: decL 20 n.natAbs else decL 20 n.natAbs
theorem dig_itoa {n:Int} (h:inI n=true):Lib.itoa n=dig n:=by
 simp only [inI,decide_eq_true_eq] at h
 unfold Lib.itoa dig
 split
 ·rw [decL_eq 20 _ (by omega) (by omega)]
 ·rw [decL_eq 20 _ (by omega) (by omega)]
  congr 1
  omega
end Go.Proofs.YtgpjfmihogaooaaGreatDoorV
namespace Go.Proofs.YtgpjfmihogaooaaGreatDoorV
open Go
abbrev Rs:=List (List PV)
abbrev Cs:=List PV
abbrev Kv:=List (PV × PV)
def sItoaQ (n:Int):Option ByteArray:=cond (Nat.ble n.natAbs 9223372036854775807) (some (text (dig n))) none
def ZOa (n b:Nat) (es:List (List PV)):Option (List (List PV)):=if ZJa n es=true∧es.length * b≤140737488355328 then some es else none
def sInsert (es:List (List PV)) (i:Int) (vs:List (List PV)):Option (List (List PV)) :=
 if 0≤i∧i≤es.length∧vs.length≠0∧(es.length + vs.length) * 8≤140737488355328 then some (es.take i.toNat ++ vs ++ es.drop i.toNat) else none
def ins (k:Int):List Int→List Int
 | []=>[k]
 | x :: l=>if x < k then x :: ins k l else k :: x :: l
def sortI (l:List Int):List Int:=l.foldl (fun o k=>ins k o) []
def decSet:List (PV × PV)→Option (List (Int × Bool))
 | []=>some []
 | (.int .i64 n,.bool b) :: l=>(decSet l).bind fun r=>some ((n,b) :: r)
 | _=>none
def encI (l:List Int):List (List PV):=l.map fun n=>[.int .i64 n]
def sRising (p:PV):Option (List (List PV)) :=
 p.asMp.bind fun kvs=>if kvs.length * 8≤140737488355328 then (decSet kvs).bind fun l=>some (encI (sortI ((l.filter (·.2)).map (·.1)))) else none
def decRows:List (List PV)→Option (List Int)
 | []=>some []
 | [.int .i64 n] :: r=>(decRows r).bind fun l=>some (n :: l)
 | _=>none
def decTurns:List (List PV)→Option (List (List Int × List Int))
 | []=>some []
 | [_,.fs b,.fs a] :: r=>(decRows b).bind fun x=>(decRows a).bind fun y=>(decTurns r).bind fun l=>some ((x,y) :: l)
 | _=>none
def addI (o:List Int) (x:Int):List Int:=if o.contains x then o else o ++ [x]
def dedI (l:List Int):List Int:=l.foldl addI []
def sRMoved (d1 _ _:List (List PV)):Option (List (List PV)) :=
 (decTurns d1).bind fun ts =>
  if d1.length≤4611686018427387904∧(ts.all fun t=>decide (t.1.length≤4611686018427387904∧t.2.length≤4611686018427387904))=true∧((dedI (ts.flatMap (·.1))).length + (dedI (ts.flatMap (·.2))).length) * 8≤140737488355328 then
   some (encI (sortI ((dedI (ts.flatMap (·.1))).filter (fun x => !(dedI (ts.flatMap (·.2))).contains x) ++ (dedI (ts.flatMap (·.2))).filter (fun x => !(dedI (ts.flatMap (·.1))).contains x))))
  else none
def sStill (_ _ _ _ _ _:List (List PV)) (_:Int):PV→Option Bool
 | .fm []=>some true
 | _=>none
end Go.Proofs.YtgpjfmihogaooaaGreatDoorV
namespace Go.Proofs.YtgpjfmihogaooaaGreatDoorV
open Go
noncomputable def sItoa (n:Int):Option ByteArray:=@ite _ (inI n=true) (Classical.propDecidable _) (some (text (dig n))) none
end Go.Proofs.YtgpjfmihogaooaaGreatDoorV
namespace Go.Proofs.YtgpjfmihogaooaaGreatDoorV
open Go
set_option maxRecDepth 100000
set_option linter.unusedVariables false
set_option linter.unusedSimpArgs false
noncomputable section
def itoaS_E (y:ByteArray):PV × List PV:=((PV.str y),[])
def itoaS_D:List PV→Option (ByteArray)
 | [(PV.int .i64 i1)]=>sItoa i1
 | _=>none
def itoaS_C:Ctr:=⟨[none],ByteArray,itoaS_D,itoaS_E,true,.d⟩
end
end Go.Proofs.YtgpjfmihogaooaaGreatDoorV
namespace Go.Proofs.YtgpjfmihogaooaaGreatDoorV
open Go
set_option maxRecDepth 100000
set_option linter.unusedVariables false
set_option linter.unusedSimpArgs false
noncomputable section
def ZGm {R:Type} (n1 a b:Int)(k:Bool→Option R):Option R :=
 cond (decide (n1 ≥ a)) (
  k (decide (n1≤b))) (
  k false)
def ZSE (y:Bool):PV × Cs:=((PV.bool y),[])
def Z9a (n1 a b:Int):Option (Bool):=ZGm n1 a b fun a0=>some a0
def ZWw:Cs→Option (Bool)
 | [.int .i64 n1,.int .i64 a,.int .i64 b]=>Z9a n1 a b
 | _=>none
def ZXD:List (Nat × Cal):=[]
def ZHw:Ctr:=⟨[none,none,none],Bool,ZWw,ZSE,true,.d⟩
theorem ZzK (n1 a b:Int) :
  funK T G0 (Zja ZXD) noL .d true [none,none,none] (Zfa Tryz.f77) [.int .i64 n1,.int .i64 a,.int .i64 b]=ZGm  n1 a b (fun a0=>some (ZSE a0)):=by kernel_rfl
theorem ZxJ {ps:Cs} {y:Bool} (h:ZWw ps=some y):∃ (n1:Int) (a:Int) (b:Int),ps=[.int .i64 n1,.int .i64 a,.int .i64 b]:=by
 unfold ZWw at h
 split at h
 ·exact ⟨_,_,_,rfl⟩
 ·cases h
theorem ZEI {R:Type} (n1 a b:Int)(k:Bool→Option R):ZGm n1 a b k=Option.bind (ZGm n1 a b fun a0=>some a0) fun y=>k y:=by
 unfold ZGm
 first | rfl | simp only [Option.bind_assoc,Zya,Zxa,Option.bind_some,Option.bind_none]
theorem ZFF (hΓ:Zga Tryz.prog G0 ZXD):Zka Tryz.prog G0 77 ZHw:=by
 refine ZIa mixed tOk (Zna hΓ) Tryz.func77 rfl rfl rfl rfl (F:=Zfa Tryz.f77) (fun ps x h=>?_)
 obtain ⟨y,hy,hx⟩:=Zba h
 cases hx
 obtain ⟨n1,a,b,rfl⟩:=ZxJ hy
 have hy':Z9a n1 a b=some y:=hy
 refine ⟨noL,ZKa _,(ZzK n1 a b).trans ?_⟩
 unfold Z9a at hy'
 rw [ZEI,hy']
 rfl
def ZSd {R:Type}:Nat→Cs→Int→Rs→Int→Int→Rs→Int→Int→(Bool→Option R)→(Cs→Rs→Int→Int→Option R)→Option R
 | 0,_,_,_,_,_,_,_,_,_,_=>none
 | n + 1,a,b,d,e,f,g,i,j,k0,k1 =>
  cond (decide (j < i)) (
   Option.bind (idx g j) fun l =>
   if l.length=1 then
    Option.bind (l[0]?) fun o =>
    Option.bind (PV.asI .i64 o) fun q =>
    Option.bind (Z9a q 0 1000) fun t =>
    cond (!t) (
     k0 false) (
     cond (b == j) (
      cond (q !=(0:Int)) (
       k0 false) (
       ZSd n a b d e f g i (IntKind.i64.wrap (j + (1:Int))) k0 k1)) (
      ZSd n a b d e f g i (IntKind.i64.wrap (j + (1:Int))) k0 k1))
   else none) (
   k1 a d e f)
def ZTf {R:Type}:Nat→Cs→Rs→Int→Int→PV→Int→Kv→PV→(Bool→Option R)→(Cs→Rs→Int→Int→Kv→PV→Option R)→Option R
 | 0,_,_,_,_,_,_,_,_,_,_=>none
 | n + 1,a,b,d,e,f,g,i,j,k0,k1 =>
  cond (decide (g < (2:Int))) (
   Option.bind (PV.asAgg f) fun l =>
   if 0≤g∧g < 2 then
    Option.bind (l[(Int.toNat g)]?) fun o =>
    Option.bind (PV.asI .i64 o) fun q =>
    Option.bind (a[1]?) fun t =>
    Option.bind (PV.asFs t) fun u =>
    Option.bind (Z9a q 1 (u.length:Int)) fun v =>
    cond (!v) (
     k0 false) (
     Option.bind (mget T 3 (PV.int .i64 q) i) fun z =>
     Option.bind (PV.asB (Option.getD z (PV.bool false))) fun A =>
     cond A (
      k0 false) (
      Option.bind (mset T 3 (PV.int .i64 q) (PV.bool true) i) fun B =>
      ZTf n a b d e f (IntKind.i64.wrap (g + (1:Int))) B j k0 k1))
   else none) (
   k1 a b d e i j)
def ZHf {R:Type}:Nat→Cs→Rs→Int→Int→(Bool→Option R)→(Unit→Option R)→Option R
 | 0,_,_,_,_,_,_=>none
 | n + 1,a,b,d,e,k0,k1 =>
  cond (decide (e < d)) (
   Option.bind (idx b e) fun f =>
   if f.length=1 then
    Option.bind (f[0]?) fun g =>
    Option.bind (PV.asFs g) fun i =>
    Option.bind (a[3]?) fun j =>
    Option.bind (PV.asFs j) fun l =>
    cond ((i.length:Int) !=(l.length:Int)) (
     k0 false) (
     ZSd n a e b d e i (i.length:Int) 0 k0
      (fun (o:Cs)(q:Rs)(t u:Int) =>
       ZHf n o q t (IntKind.i64.wrap (u + (1:Int))) k0 k1))
   else none) (
   k1 ())
def ZKf {R:Type}:Nat→Cs→Rs→Int→Int→Kv→(Cs→Option R)→(Bool→Option R)→Option R
 | 0,_,_,_,_,_,_,_=>none
 | n + 1,a,b,d,e,f,k0,k1 =>
  cond (decide (e < d)) (
   Option.bind (idx b e) fun g =>
   if g.length=2 then
    Option.bind (Zra g 0 2) fun i =>
    if (PV.isAgg i 2)=true then
     ZTf n a b d e i 0 f i k1
      (fun (j:Cs)(l:Rs)(i64 o:Int)(q:Kv)(t:PV) =>
       Option.bind (j[1]?) fun u =>
       Option.bind (PV.asFs u) fun v =>
       Option.bind ((PV.cells t)[0]?) fun z =>
       Option.bind (PV.asI .i64 z) fun A =>
       Option.bind (idx v (IntKind.i64.wrap (A - (1:Int)))) fun B =>
       if B.length=4 then
        Option.bind (B[0]?) fun C =>
        Option.bind (PV.asI .i64 C) fun D =>
        cond (decide (D < (0:Int))) (
         k1 false) (
         Option.bind (j[1]?) fun E =>
         Option.bind (PV.asFs E) fun F =>
         Option.bind ((PV.cells t)[1]?) fun G =>
         Option.bind (PV.asI .i64 G) fun H =>
         Option.bind (idx F (IntKind.i64.wrap (H - (1:Int)))) fun I =>
         if I.length=4 then
          Option.bind (I[0]?) fun J =>
          Option.bind (PV.asI .i64 J) fun K =>
          cond (K !=(IntKind.i64.wrap (0 - D))) (
           k1 false) (
           ZKf n j l i64 (IntKind.i64.wrap (o + (1:Int))) q k0 k1)
         else none)
       else none)
    else none
   else none) (
   k0 a)
def ZIf {R:Type}:Nat→Cs→Rs→Int→Int→(Bool→Option R)→(Cs→Option R)→Option R
 | 0,_,_,_,_,_,_=>none
 | n + 1,a,b,d,e,k0,k1 =>
  cond (decide (e < d)) (
   Option.bind (idx b e) fun f =>
   if f.length=4 then
    Option.bind (Zra f 0 4) fun g =>
    if (PV.isAgg g 4)=true then
     Option.bind ((PV.cells g)[0]?) fun i =>
     Option.bind (PV.asI .i64 i) fun j =>
     Option.bind (Z9a j (-20) 20) fun l =>
     cond (!l) (
      k0 false) (
      Option.bind ((PV.cells g)[1]?) fun o =>
      Option.bind (PV.asI .i64 o) fun q =>
      Option.bind ((PV.cells g)[2]?) fun t =>
      Option.bind (PV.asI .i64 t) fun u =>
      Option.bind (Z9a q 0 u) fun v =>
      cond (!v) (
       k0 false) (
       Option.bind ((PV.cells g)[2]?) fun z =>
       Option.bind (PV.asI .i64 z) fun A =>
       cond (decide (A > (1000:Int))) (
        k0 false) (
        Option.bind ((PV.cells g)[3]?) fun B =>
        Option.bind (PV.asI .i64 B) fun C =>
        Option.bind (Z9a C 0 1000) fun D =>
        cond (!D) (
         k0 false) (
         ZIf n a b d (IntKind.i64.wrap (e + (1:Int))) k0 k1))))
    else none
   else none) (
   k1 a)
def Zmg {R:Type}:Nat→Cs→Rs→Int→Int→(Bool→Option R)→(Cs→Option R)→Option R
 | 0,_,_,_,_,_,_=>none
 | n + 1,a,b,d,e,k0,k1 =>
  cond (decide (e < d)) (
   Option.bind (idx b e) fun f =>
   if f.length=3 then
    Option.bind (Zra f 0 3) fun g =>
    if (PV.isAgg g 3)=true then
     Option.bind ((PV.cells g)[0]?) fun i =>
     Option.bind (PV.asI .i64 i) fun j =>
     Option.bind (Z9a j 0 60) fun l =>
     cond (!l) (
      k0 false) (
      Option.bind ((PV.cells g)[1]?) fun o =>
      Option.bind (PV.asI .i64 o) fun q =>
      Option.bind ((PV.cells g)[2]?) fun t =>
      Option.bind (PV.asI .i64 t) fun u =>
      Option.bind (Z9a q 0 u) fun v =>
      cond (!v) (
       k0 false) (
       Option.bind ((PV.cells g)[2]?) fun z =>
       Option.bind (PV.asI .i64 z) fun A =>
       cond (decide (A > (1000:Int))) (
        k0 false) (
        Zmg n a b d (IntKind.i64.wrap (e + (1:Int))) k0 k1)))
    else none
   else none) (
   k1 a)
def ZRh {R:Type} (n:Nat)(i1 i2 i3 i4:Rs)(k:Bool→Option R):Option R :=
 Option.bind (Z9a (i1.length:Int) 1 3) fun y5 =>
 cond (!y5) (
  k false) (
  cond (decide ((i2.length:Int) > (10:Int))) (
   k false) (
   cond ((i4.length:Int) !=(IntKind.i64.wrap ((i2.length:Int) + (1:Int)))) (
    k false) (
    Zmg n [.fs i1,.fs i2,.fs i3,.fs i4] i1 (i1.length:Int) 0 k
     (fun (i7:Cs) =>
      Option.bind (i7[1]?) fun c8 =>
      Option.bind (PV.asFs c8) fun a =>
      ZIf n i7 a (a.length:Int) 0 k
       (fun (b:Cs) =>
        Option.bind (b[2]?) fun d =>
        Option.bind (PV.asFs d) fun e =>
        ZKf n b e (e.length:Int) 0 ([]:Kv)
         (fun (f:Cs) =>
          Option.bind (f[3]?) fun g =>
          Option.bind (PV.asFs g) fun i =>
          ZHf n f i (i.length:Int) 0 k
           (fun (_:Unit) =>
            k true)) k)))))
def ZUx (y:Bool):PV × Cs:=((PV.bool y),[])
def ZSe:Nat→Cs→Int→Rs→Int→Int→Rs→Int→Int→Option ((Bool) ⊕ ((Cs) × Rs × Int × Int))
 | 0,_,_,_,_,_,_,_,_=>none
 | n + 1,a,b,d,e,f,g,i,j =>
  cond (decide (j < i)) (
   Option.bind (idx g j) fun l =>
   if l.length=1 then
    Option.bind (l[0]?) fun o =>
    Option.bind (PV.asI .i64 o) fun q =>
    Option.bind (Z9a q 0 1000) fun t =>
    cond (!t) (
     some (Sum.inl false)) (
     cond (b == j) (
      cond (q !=(0:Int)) (
       some (Sum.inl false)) (
       ZSe n a b d e f g i (IntKind.i64.wrap (j + (1:Int))))) (
      ZSe n a b d e f g i (IntKind.i64.wrap (j + (1:Int)))))
   else none) (
   some (Sum.inr (a,d,e,f)))
theorem ZSA {R:Type} (n:Nat)(a:Cs)(b:Int)(d:Rs)(e f:Int)(g:Rs)(i j:Int)(k0:Bool→Option R)(k1:Cs→Rs→Int→Int→Option R):Tw (ZSe n a b d e f g i j) (ZSd n a b d e f g i j k0 k1) (fun s=>match s with | (Sum.inl a0)=>k0 a0 | (Sum.inr (a0,a1,a2,a3))=>k1 a0 a1 a2 a3):=by
 induction n generalizing a b d e f g i j with
 | zero=>exact Zwa
 | succ n ih =>
  unfold ZSe ZSd
  refine Zha (fun _=>?_) (fun _=>?_)
  ·refine Zaa fun l _=>?_
   refine Zqa fun _=>?_
   refine Zaa fun o _=>?_
   refine Zaa fun q _=>?_
   refine Zaa fun t _=>?_
   refine Zha (fun _=>?_) (fun _=>?_)
   ·exact Zda rfl
   ·refine Zha (fun _=>?_) (fun _=>?_)
    ·refine Zha (fun _=>?_) (fun _=>?_)
     ·exact Zda rfl
     ·exact ih _ _ _ _ _ _ _ _
    ·exact ih _ _ _ _ _ _ _ _
  ·exact Zda rfl
def Zsh:Nat→Cs→Rs→Int→Int→PV→Int→Kv→PV→Option ((Bool) ⊕ ((Cs) × Rs × Int × Int × (Kv) × PV))
 | 0,_,_,_,_,_,_,_,_=>none
 | n + 1,a,b,d,e,f,g,i,j =>
  cond (decide (g < (2:Int))) (
   Option.bind (PV.asAgg f) fun l =>
   if 0≤g∧g < 2 then
    Option.bind (l[(Int.toNat g)]?) fun o =>
    Option.bind (PV.asI .i64 o) fun q =>
    Option.bind (a[1]?) fun t =>
    Option.bind (PV.asFs t) fun u =>
    Option.bind (Z9a q 1 (u.length:Int)) fun v =>
    cond (!v) (
     some (Sum.inl false)) (
     Option.bind (mget T 3 (PV.int .i64 q) i) fun z =>
     Option.bind (PV.asB (Option.getD z (PV.bool false))) fun A =>
     cond A (
      some (Sum.inl false)) (
      Option.bind (mset T 3 (PV.int .i64 q) (PV.bool true) i) fun B =>
      Zsh n a b d e f (IntKind.i64.wrap (g + (1:Int))) B j))
   else none) (
   some (Sum.inr (a,b,d,e,i,j)))
theorem Z6A {R:Type} (n:Nat)(a:Cs)(b:Rs)(d e:Int)(f:PV)(g:Int)(i:Kv)(j:PV)(k0:Bool→Option R)(k1:Cs→Rs→Int→Int→Kv→PV→Option R):Tw (Zsh n a b d e f g i j) (ZTf n a b d e f g i j k0 k1) (fun s=>match s with | (Sum.inl a0)=>k0 a0 | (Sum.inr (a0,a1,a2,a3,a4,a5))=>k1 a0 a1 a2 a3 a4 a5):=by
 induction n generalizing a b d e f g i j with
 | zero=>exact Zwa
 | succ n ih =>
  unfold Zsh ZTf
  refine Zha (fun _=>?_) (fun _=>?_)
  ·refine Zaa fun l _=>?_
   refine Zqa fun _=>?_
   refine Zaa fun o _=>?_
   refine Zaa fun q _=>?_
   refine Zaa fun t _=>?_
   refine Zaa fun u _=>?_
   refine Zaa fun v _=>?_
   refine Zha (fun _=>?_) (fun _=>?_)
   ·exact Zda rfl
   ·refine Zaa fun z _=>?_
    refine Zaa fun A _=>?_
    refine Zha (fun _=>?_) (fun _=>?_)
    ·exact Zda rfl
    ·refine Zaa fun B _=>?_
     exact ih _ _ _ _ _ _ _ _
  ·exact Zda rfl
def Zuh:Nat→Cs→Rs→Int→Int→Option ((Bool) ⊕ (Unit))
 | 0,_,_,_,_=>none
 | n + 1,a,b,d,e =>
  cond (decide (e < d)) (
   Option.bind (idx b e) fun f =>
   if f.length=1 then
    Option.bind (f[0]?) fun g =>
    Option.bind (PV.asFs g) fun i =>
    Option.bind (a[3]?) fun j =>
    Option.bind (PV.asFs j) fun l =>
    cond ((i.length:Int) !=(l.length:Int)) (
     some (Sum.inl false)) (
     Option.bind (ZSe n a e b d e i (i.length:Int) 0) fun s=>match s with
      | (Sum.inl o) =>
       some (Sum.inl o)
      | (Sum.inr (q,t,u,v)) =>
       Zuh n q t u (IntKind.i64.wrap (v + (1:Int))))
   else none) (
   some (Sum.inr ()))
theorem ZyA {R:Type} (n:Nat)(a:Cs)(b:Rs)(d e:Int)(k0:Bool→Option R)(k1:Unit→Option R):Tw (Zuh n a b d e) (ZHf n a b d e k0 k1) (fun s=>match s with | (Sum.inl a0)=>k0 a0 | (Sum.inr _)=>k1 ()):=by
 induction n generalizing a b d e with
 | zero=>exact Zwa
 | succ n ih =>
  unfold Zuh ZHf
  refine Zha (fun _=>?_) (fun _=>?_)
  ·refine Zaa fun f _=>?_
   refine Zqa fun _=>?_
   refine Zaa fun g _=>?_
   refine Zaa fun i _=>?_
   refine Zaa fun j _=>?_
   refine Zaa fun l _=>?_
   refine Zha (fun _=>?_) (fun _=>?_)
   ·exact Zda rfl
   ·refine Zma (ZSA _ _ _ _ _ _ _ _ _ _ _) (fun s=>?_)
    rcases s with o | ⟨q,t,u,v⟩
    ·exact Zda rfl
    ·exact ih _ _ _ _
  ·exact Zda rfl
def Zrh:Nat→Cs→Rs→Int→Int→Kv→Option (((Cs)) ⊕ (Bool))
 | 0,_,_,_,_,_=>none
 | n + 1,a,b,d,e,f =>
  cond (decide (e < d)) (
   Option.bind (idx b e) fun g =>
   if g.length=2 then
    Option.bind (Zra g 0 2) fun i =>
    if (PV.isAgg i 2)=true then
     Option.bind (Zsh n a b d e i 0 f i) fun s=>match s with
      | (Sum.inl j) =>
       some (Sum.inr j)
      | (Sum.inr (l,o,i64,q,t,u)) =>
       Option.bind (l[1]?) fun v =>
       Option.bind (PV.asFs v) fun z =>
       Option.bind ((PV.cells u)[0]?) fun A =>
       Option.bind (PV.asI .i64 A) fun B =>
       Option.bind (idx z (IntKind.i64.wrap (B - (1:Int)))) fun C =>
       if C.length=4 then
        Option.bind (C[0]?) fun D =>
        Option.bind (PV.asI .i64 D) fun E =>
        cond (decide (E < (0:Int))) (
         some (Sum.inr false)) (
         Option.bind (l[1]?) fun F =>
         Option.bind (PV.asFs F) fun G =>
         Option.bind ((PV.cells u)[1]?) fun H =>
         Option.bind (PV.asI .i64 H) fun I =>
         Option.bind (idx G (IntKind.i64.wrap (I - (1:Int)))) fun J =>
         if J.length=4 then
          Option.bind (J[0]?) fun K =>
          Option.bind (PV.asI .i64 K) fun L =>
          cond (L !=(IntKind.i64.wrap (0 - E))) (
           some (Sum.inr false)) (
           Zrh n l o i64 (IntKind.i64.wrap (q + (1:Int))) t)
         else none)
       else none
    else none
   else none) (
   some (Sum.inl a))
theorem ZKA {R:Type} (n:Nat)(a:Cs)(b:Rs)(d e:Int)(f:Kv)(k0:Cs→Option R)(k1:Bool→Option R):Tw (Zrh n a b d e f) (ZKf n a b d e f k0 k1) (fun s=>match s with | (Sum.inl a0)=>k0 a0 | (Sum.inr a0)=>k1 a0):=by
 induction n generalizing a b d e f with
 | zero=>exact Zwa
 | succ n ih =>
  unfold Zrh ZKf
  refine Zha (fun _=>?_) (fun _=>?_)
  ·refine Zaa fun g _=>?_
   refine Zqa fun _=>?_
   refine Zaa fun i _=>?_
   refine Zqa fun _=>?_
   refine Zma (Z6A _ _ _ _ _ _ _ _ _ _ _) (fun s=>?_)
   rcases s with j | ⟨l,o,i64,q,t,u⟩
   ·exact Zda rfl
   ·refine Zaa fun v _=>?_
    refine Zaa fun z _=>?_
    refine Zaa fun A _=>?_
    refine Zaa fun B _=>?_
    refine Zaa fun C _=>?_
    refine Zqa fun _=>?_
    refine Zaa fun D _=>?_
    refine Zaa fun E _=>?_
    refine Zha (fun _=>?_) (fun _=>?_)
    ·exact Zda rfl
    ·refine Zaa fun F _=>?_
     refine Zaa fun G _=>?_
     refine Zaa fun H _=>?_
     refine Zaa fun I _=>?_
     refine Zaa fun J _=>?_
     refine Zqa fun _=>?_
     refine Zaa fun K _=>?_
     refine Zaa fun L _=>?_
     refine Zha (fun _=>?_) (fun _=>?_)
     ·exact Zda rfl
     ·exact ih _ _ _ _ _
  ·exact Zda rfl
def Zxh:Nat→Cs→Rs→Int→Int→Option ((Bool) ⊕ ((Cs)))
 | 0,_,_,_,_=>none
 | n + 1,a,b,d,e =>
  cond (decide (e < d)) (
   Option.bind (idx b e) fun f =>
   if f.length=4 then
    Option.bind (Zra f 0 4) fun g =>
    if (PV.isAgg g 4)=true then
     Option.bind ((PV.cells g)[0]?) fun i =>
     Option.bind (PV.asI .i64 i) fun j =>
     Option.bind (Z9a j (-20) 20) fun l =>
     cond (!l) (
      some (Sum.inl false)) (
      Option.bind ((PV.cells g)[1]?) fun o =>
      Option.bind (PV.asI .i64 o) fun q =>
      Option.bind ((PV.cells g)[2]?) fun t =>
      Option.bind (PV.asI .i64 t) fun u =>
      Option.bind (Z9a q 0 u) fun v =>
      cond (!v) (
       some (Sum.inl false)) (
       Option.bind ((PV.cells g)[2]?) fun z =>
       Option.bind (PV.asI .i64 z) fun A =>
       cond (decide (A > (1000:Int))) (
        some (Sum.inl false)) (
        Option.bind ((PV.cells g)[3]?) fun B =>
        Option.bind (PV.asI .i64 B) fun C =>
        Option.bind (Z9a C 0 1000) fun D =>
        cond (!D) (
         some (Sum.inl false)) (
         Zxh n a b d (IntKind.i64.wrap (e + (1:Int)))))))
    else none
   else none) (
   some (Sum.inr a))
theorem ZUA {R:Type} (n:Nat)(a:Cs)(b:Rs)(d e:Int)(k0:Bool→Option R)(k1:Cs→Option R):Tw (Zxh n a b d e) (ZIf n a b d e k0 k1) (fun s=>match s with | (Sum.inl a0)=>k0 a0 | (Sum.inr a0)=>k1 a0):=by
 induction n generalizing a b d e with
 | zero=>exact Zwa
 | succ n ih =>
  unfold Zxh ZIf
  refine Zha (fun _=>?_) (fun _=>?_)
  ·refine Zaa fun f _=>?_
   refine Zqa fun _=>?_
   refine Zaa fun g _=>?_
   refine Zqa fun _=>?_
   refine Zaa fun i _=>?_
   refine Zaa fun j _=>?_
   refine Zaa fun l _=>?_
   refine Zha (fun _=>?_) (fun _=>?_)
   ·exact Zda rfl
   ·refine Zaa fun o _=>?_
    refine Zaa fun q _=>?_
    refine Zaa fun t _=>?_
    refine Zaa fun u _=>?_
    refine Zaa fun v _=>?_
    refine Zha (fun _=>?_) (fun _=>?_)
    ·exact Zda rfl
    ·refine Zaa fun z _=>?_
     refine Zaa fun A _=>?_
     refine Zha (fun _=>?_) (fun _=>?_)
     ·exact Zda rfl
     ·refine Zaa fun B _=>?_
      refine Zaa fun C _=>?_
      refine Zaa fun D _=>?_
      refine Zha (fun _=>?_) (fun _=>?_)
      ·exact Zda rfl
      ·exact ih _ _ _ _
  ·exact Zda rfl
def Zti:Nat→Cs→Rs→Int→Int→Option ((Bool) ⊕ ((Cs)))
 | 0,_,_,_,_=>none
 | n + 1,a,b,d,e =>
  cond (decide (e < d)) (
   Option.bind (idx b e) fun f =>
   if f.length=3 then
    Option.bind (Zra f 0 3) fun g =>
    if (PV.isAgg g 3)=true then
     Option.bind ((PV.cells g)[0]?) fun i =>
     Option.bind (PV.asI .i64 i) fun j =>
     Option.bind (Z9a j 0 60) fun l =>
     cond (!l) (
      some (Sum.inl false)) (
      Option.bind ((PV.cells g)[1]?) fun o =>
      Option.bind (PV.asI .i64 o) fun q =>
      Option.bind ((PV.cells g)[2]?) fun t =>
      Option.bind (PV.asI .i64 t) fun u =>
      Option.bind (Z9a q 0 u) fun v =>
      cond (!v) (
       some (Sum.inl false)) (
       Option.bind ((PV.cells g)[2]?) fun z =>
       Option.bind (PV.asI .i64 z) fun A =>
       cond (decide (A > (1000:Int))) (
        some (Sum.inl false)) (
        Zti n a b d (IntKind.i64.wrap (e + (1:Int))))))
    else none
   else none) (
   some (Sum.inr a))
theorem ZPC {R:Type} (n:Nat)(a:Cs)(b:Rs)(d e:Int)(k0:Bool→Option R)(k1:Cs→Option R):Tw (Zti n a b d e) (Zmg n a b d e k0 k1) (fun s=>match s with | (Sum.inl a0)=>k0 a0 | (Sum.inr a0)=>k1 a0):=by
 induction n generalizing a b d e with
 | zero=>exact Zwa
 | succ n ih =>
  unfold Zti Zmg
  refine Zha (fun _=>?_) (fun _=>?_)
  ·refine Zaa fun f _=>?_
   refine Zqa fun _=>?_
   refine Zaa fun g _=>?_
   refine Zqa fun _=>?_
   refine Zaa fun i _=>?_
   refine Zaa fun j _=>?_
   refine Zaa fun l _=>?_
   refine Zha (fun _=>?_) (fun _=>?_)
   ·exact Zda rfl
   ·refine Zaa fun o _=>?_
    refine Zaa fun q _=>?_
    refine Zaa fun t _=>?_
    refine Zaa fun u _=>?_
    refine Zaa fun v _=>?_
    refine Zha (fun _=>?_) (fun _=>?_)
    ·exact Zda rfl
    ·refine Zaa fun z _=>?_
     refine Zaa fun A _=>?_
     refine Zha (fun _=>?_) (fun _=>?_)
     ·exact Zda rfl
     ·exact ih _ _ _ _
  ·exact Zda rfl
def Z8d (i1 i2 i3 i4:Rs):Option (Bool) :=
 Option.bind (Z9a (i1.length:Int) 1 3) fun y5 =>
 cond (!y5) (
  some false) (
  cond (decide ((i2.length:Int) > (10:Int))) (
   some false) (
   cond ((i4.length:Int) !=(IntKind.i64.wrap ((i2.length:Int) + (1:Int)))) (
    some false) (
    Option.bind (Zti 9223372036854775808 [.fs i1,.fs i2,.fs i3,.fs i4] i1 (i1.length:Int) 0) fun s=>match s with
     | (Sum.inl b6) =>
      some b6
     | (Sum.inr i7) =>
      Option.bind (i7[1]?) fun c8 =>
      Option.bind (PV.asFs c8) fun a =>
      Option.bind (Zxh 9223372036854775808 i7 a (a.length:Int) 0) fun s=>match s with
       | (Sum.inl b) =>
        some b
       | (Sum.inr d) =>
        Option.bind (d[2]?) fun e =>
        Option.bind (PV.asFs e) fun f =>
        Option.bind (Zrh 9223372036854775808 d f (f.length:Int) 0 ([]:Kv)) fun s=>match s with
         | (Sum.inl g) =>
          Option.bind (g[3]?) fun i =>
          Option.bind (PV.asFs i) fun j =>
          Option.bind (Zuh 9223372036854775808 g j (j.length:Int) 0) fun s=>match s with
           | (Sum.inl l) =>
            some l
           | (Sum.inr _) =>
            some true
         | (Sum.inr o) =>
          some o)))
theorem Z6F {R:Type} (i1 i2 i3 i4:Rs)(k:Bool→Option R):Tw (Z8d i1 i2 i3 i4) (ZRh 9223372036854775808 i1 i2 i3 i4 k) (fun s=>match s with | a0=>k a0):=by
 unfold Z8d ZRh
 refine Zaa fun y5 _=>?_
 refine Zha (fun _=>?_) (fun _=>?_)
 ·exact Zda rfl
 ·refine Zha (fun _=>?_) (fun _=>?_)
  ·exact Zda rfl
  ·refine Zha (fun _=>?_) (fun _=>?_)
   ·exact Zda rfl
   ·refine Zma (ZPC _ _ _ _ _ _ _) (fun s=>?_)
    rcases s with b6 | i7
    ·exact Zda rfl
    ·refine Zaa fun c8 _=>?_
     refine Zaa fun a _=>?_
     refine Zma (ZUA _ _ _ _ _ _ _) (fun s=>?_)
     rcases s with b | d
     ·exact Zda rfl
     ·refine Zaa fun e _=>?_
      refine Zaa fun f _=>?_
      refine Zma (ZKA _ _ _ _ _ _ _ _) (fun s=>?_)
      rcases s with g | i
      ·refine Zaa fun j _=>?_
       refine Zaa fun l _=>?_
       refine Zma (ZyA _ _ _ _ _ _ _) (fun s=>?_)
       rcases s with o | ⟨⟩
       ·exact Zda rfl
       ·exact Zda rfl
      ·exact Zda rfl
theorem ZpG:∀ (i1 i2 i3 i4:Rs)(y:Bool),Z8d i1 i2 i3 i4=some y→∃ n,∀ (R:Type)(k:Bool→Option R),ZRh n i1 i2 i3 i4 k=k y:=fun i1 i2 i3 i4 y h=>⟨9223372036854775808,fun R k=>Z6F i1 i2 i3 i4 k y h⟩
def Zjq:Cs→Option (Bool)
 | [.agg [.fs i1,.fs i2,.fs i3,.fs i4]]=>Z8d i1 i2 i3 i4
 | _=>none
def Zyc:List (Nat × Cal):=[(77,.ctr ZHw),(1000000001,ro_I)]
def Zfq:Ctr:=⟨[none],Bool,Zjq,ZUx,true,.d⟩
def Zvb:List (Nat × LC):=[(4,⟨[1,39,40,41],[],[],[],[1]⟩),
 (2000004,⟨[2],[],[],[],[]⟩),
 (1004000,⟨[1],[],[],[],[]⟩),
 (10,⟨[1,64,65,66],[],[],[],[]⟩),
 (2000010,⟨[2],[],[],[],[]⟩),
 (1010002,⟨[1],[],[],[],[]⟩),
 (17,⟨[1,7,96,97,98],[],[],[],[]⟩),
 (20,⟨[1,7,9,96,97,98,102,103],[],[],[],[]⟩),
 (1017004,⟨[1],[],[],[],[]⟩),
 (2000020,⟨[2],[],[],[],[]⟩),
 (1020006,⟨[1,7,9,96,97,98],[],[],[],[]⟩),
 (31,⟨[1,145,146,147],[],[],[],[]⟩),
 (2000017,⟨[2],[],[],[],[]⟩),
 (2000031,⟨[2],[],[],[],[]⟩),
 (36,⟨[1,13,145,146,147,158,159,160],[],[],[],[]⟩),
 (1031008,⟨[],[],[],[],[]⟩),
 (2000036,⟨[2],[],[],[],[]⟩),
 (1036010,⟨[1,145,146,147],[],[],[],[]⟩)]
def Z4m:SP:=⟨Zea .undef [(1,(.val (.rp 0))),(13,(.val (.int .i64))),(145,(.val .fs)),(146,(.val (.int .i64))),(147,(.val (.int .i64))),(158,(.val .fs)),(159,(.val (.int .i64))),(160,(.val (.int .i64)))] 0 179,[],[]⟩
def ZIn:SP:=⟨Zea .undef [(1,(.val (.rp 0))),(7,(.mp 0)),(9,(.ref 1 0)),(96,(.val .fs)),(97,(.val (.int .i64))),(98,(.val (.int .i64))),(102,(.val .any)),(103,(.val (.int .i64)))] 0 179,[.map,(.pbox .any 2)],[]⟩
def Zzm:SP:=⟨Zea .undef [(1,(.val (.rp 0))),(145,(.val .fs)),(146,(.val (.int .i64))),(147,(.val (.int .i64)))] 0 179,[],[]⟩
def ZCn:SP:=⟨Zea .undef [(1,(.val (.rp 0))),(7,(.mp 0)),(96,(.val .fs)),(97,(.val (.int .i64))),(98,(.val (.int .i64)))] 0 179,[.map],[]⟩
def ZYm:SP:=⟨Zea .undef [(1,(.val (.rp 0))),(64,(.val .fs)),(65,(.val (.int .i64))),(66,(.val (.int .i64)))] 0 179,[],[]⟩
def Zjo:SP:=⟨Zea .undef [(1,(.val (.rp 0))),(39,(.val .fs)),(40,(.val (.int .i64))),(41,(.val (.int .i64)))] 0 179,[],[]⟩
def ZWt:Nat→Option SP
 | 36=>some Z4m
 | 20=>some ZIn
 | 31=>some Zzm
 | 17=>some ZCn
 | 10=>some ZYm
 | 4=>some Zjo
 | _=>none
def ZEr:Nat→Option SP
 | _=>none
def Z0d (n:Nat)(ls:List Leaf)(R:Type)(k:Ex→St→Option R):Option R :=
 match ls with
 | [.cells a,.int b,.rows d,.int e,.int f,.rows g,.int i,.int j]=>ZSd n a b d e f g i j (fun l=>k .ret ⟨Zea .undef [(2,(TV.val (PV.bool l)))] 0 179,[],[]⟩)
   (fun o q t u=>k (.exit 10) ⟨Zea .undef [(1,(TV.val (PV.rp o 0))),(145,(TV.val (PV.fs q))),(146,(TV.val (PV.int .i64 t))),(147,(TV.val (PV.int .i64 u)))] 0 179,[],[]⟩)
 | _=>none
def ZPd (n:Nat)(ls:List Leaf)(R:Type)(k:Ex→St→Option R):Option R :=
 match ls with
 | [.cells a,.rows b,.int d,.int e,.pv f,.int g,.kvs i,.pv j]=>ZTf n a b d e f g i j (fun l=>k .ret ⟨Zea .undef [(2,(TV.val (PV.bool l)))] 0 179,[],[]⟩)
   (fun o q t u v z=>k (.exit 6) ⟨Zea .undef [(1,(TV.val (PV.rp o 0))),(7,(TV.mp 0)),(9,(TV.ref 1 0)),(96,(TV.val (PV.fs q))),(97,(TV.val (PV.int .i64 t))),(98,(TV.val (PV.int .i64 u)))] 0 179,[(Ob.map v),(Ob.pbox z 2)],[]⟩)
 | _=>none
def Z2d (n:Nat)(ls:List Leaf)(R:Type)(k:Ex→St→Option R):Option R :=
 match ls with
 | [.cells a,.rows b,.int d,.int e]=>ZHf n a b d e (fun f=>k .ret ⟨Zea .undef [(2,(TV.val (PV.bool f)))] 0 179,[],[]⟩)
   (fun _=>k (.exit 8) ⟨Zea .undef [] 0 179,[],[]⟩)
 | _=>none
def ZTd (n:Nat)(ls:List Leaf)(R:Type)(k:Ex→St→Option R):Option R :=
 match ls with
 | [.cells a,.rows b,.int d,.int e,.kvs f]=>ZKf n a b d e f (fun g=>k (.exit 4) ⟨Zea .undef [(1,(TV.val (PV.rp g 0)))] 0 179,[],[]⟩)
   (fun i=>k .ret ⟨Zea .undef [(2,(TV.val (PV.bool i)))] 0 179,[],[]⟩)
 | _=>none
def ZWd (n:Nat)(ls:List Leaf)(R:Type)(k:Ex→St→Option R):Option R :=
 match ls with
 | [.cells a,.rows b,.int d,.int e]=>ZIf n a b d e (fun f=>k .ret ⟨Zea .undef [(2,(TV.val (PV.bool f)))] 0 179,[],[]⟩)
   (fun g=>k (.exit 2) ⟨Zea .undef [(1,(TV.val (PV.rp g 0)))] 0 179,[],[]⟩)
 | _=>none
def ZBe (n:Nat)(ls:List Leaf)(R:Type)(k:Ex→St→Option R):Option R :=
 match ls with
 | [.cells a,.rows b,.int d,.int e]=>Zmg n a b d e (fun f=>k .ret ⟨Zea .undef [(2,(TV.val (PV.bool f)))] 0 179,[],[]⟩)
   (fun g=>k (.exit 0) ⟨Zea .undef [(1,(TV.val (PV.rp g 0)))] 0 179,[],[]⟩)
 | _=>none
def Zsx (n key:Nat) (ls:List Leaf) (R:Type) (k:Ex→St→Option R):Option R :=
 match key with
 | 36=>Z0d n ls R k
 | 20=>ZPd n ls R k
 | 31=>Z2d n ls R k
 | 17=>ZTd n ls R k
 | 10=>ZWd n ls R k
 | 4=>ZBe n ls R k
 | _=>none
def ZCx (n key:Nat) (ls:List Leaf) (R:Type) (k:Ex→St→Option R):Option R :=
 match key with
 | _=>none
def Z5v:Code→Bool:=fun _=>false
def Z7d:Nat→Loops:=patL (Zsa Zvb) ZWt Zsx (ZCa Zvb) Z5v ZEr ZCx
theorem ZnA (n:Nat)(a:Cs)(b:Rs)(d e:Int)  (R:Type) (k:Ex→St→Option R) :
  Zza T G0 (Zja Zyc) (Zsa Zvb) (Z7d n) (Zia [1,1,0,1,0,0] (Zca Tryz.f51)) (Zoa Zjo [.cells a,.rows b,.int d,.int e]) R k=ZBe (n + 1) [.cells a,.rows b,.int d,.int e] R k:=by kernel_rfl
theorem ZMz (n:Nat)(a:Cs)(b:Rs)(d e:Int)  (R:Type) (k:Ex→St→Option R) :
  Zza T G0 (Zja Zyc) (Zsa Zvb) (Z7d n) (Zia [1,1,1,0,1,0,0] (Zca Tryz.f51)) (Zoa ZYm [.cells a,.rows b,.int d,.int e]) R k=ZWd (n + 1) [.cells a,.rows b,.int d,.int e] R k:=by kernel_rfl
theorem Z7z (n:Nat)(a:Cs)(b:Rs)(d e:Int)(f:Kv)  (R:Type) (k:Ex→St→Option R) :
  Zza T G0 (Zja Zyc) (Zsa Zvb) (Z7d n) (Zia [1,1,1,1,1,0,1,0,0] (Zca Tryz.f51)) (Zoa ZCn [.cells a,.rows b,.int d,.int e,.kvs f]) R k=ZTd (n + 1) [.cells a,.rows b,.int d,.int e,.kvs f] R k:=by kernel_rfl
theorem Ziz (n:Nat)(a:Cs)(b:Rs)(d e:Int)(f:PV)(g:Int)(i:Kv)(j:PV)  (R:Type) (k:Ex→St→Option R) :
  Zza T G0 (Zja Zyc) (Zsa Zvb) (Z7d n) (Zia [1,1,1,1,1,0,1,0,0,1,1,0,0,1,0,1,0,0] (Zca Tryz.f51)) (Zoa ZIn [.cells a,.rows b,.int d,.int e,.pv f,.int g,.kvs i,.pv j]) R k=ZPd (n + 1) [.cells a,.rows b,.int d,.int e,.pv f,.int g,.kvs i,.pv j] R k:=by kernel_rfl
theorem Zwy (n:Nat)(a:Cs)(b:Rs)(d e:Int)  (R:Type) (k:Ex→St→Option R) :
  Zza T G0 (Zja Zyc) (Zsa Zvb) (Z7d n) (Zia [1,1,1,1,1,1,0,1,0,0] (Zca Tryz.f51)) (Zoa Zzm [.cells a,.rows b,.int d,.int e]) R k=Z2d (n + 1) [.cells a,.rows b,.int d,.int e] R k:=by kernel_rfl
theorem ZVz (n:Nat)(a:Cs)(b:Int)(d:Rs)(e f:Int)(g:Rs)(i j:Int)  (R:Type) (k:Ex→St→Option R) :
  Zza T G0 (Zja Zyc) (Zsa Zvb) (Z7d n) (Zia [1,1,1,1,1,1,0,1,0,0,1,1,0,0,1,1,1,0,0] (Zca Tryz.f51)) (Zoa Z4m [.cells a,.int b,.rows d,.int e,.int f,.rows g,.int i,.int j]) R k=Z0d (n + 1) [.cells a,.int b,.rows d,.int e,.int f,.rows g,.int i,.int j] R k:=by kernel_rfl
theorem ZWF (n:Nat)(i1 i2 i3 i4:Rs) :
  funK T G0 (Zja Zyc) (Z7d n) .d true [none] (Zfa Tryz.f51) [.agg [.fs i1,.fs i2,.fs i3,.fs i4]]=ZRh n  i1 i2 i3 i4 (fun a0=>some (ZUx a0)):=by kernel_rfl
theorem Z0D {ps:Cs} {y:Bool} (h:Zjq ps=some y):∃ (i1:Rs) (i2:Rs) (i3:Rs) (i4:Rs),ps=[.agg [.fs i1,.fs i2,.fs i3,.fs i4]]:=by
 unfold Zjq at h
 split at h
 ·exact ⟨_,_,_,_,rfl⟩
 ·cases h
theorem Zzq:Zpa (Zca Tryz.f51)=[Zia [1,1,0,1,0,0] (Zca Tryz.f51),Zia [1,1,1,0,1,0,0] (Zca Tryz.f51),Zia [1,1,1,1,1,0,1,0,0] (Zca Tryz.f51),Zia [1,1,1,1,1,0,1,0,0,1,1,0,0,1,0,1,0,0] (Zca Tryz.f51),Zia [1,1,1,1,1,1,0,1,0,0] (Zca Tryz.f51),Zia [1,1,1,1,1,1,0,1,0,0,1,1,0,0,1,1,1,0,0] (Zca Tryz.f51)]:=by kernel_rfl
theorem ZOA (hΓ:Zga Tryz.prog G0 Zyc) (hok:∀ (i1 i2 i3 i4:Rs)(y:Bool),Z8d i1 i2 i3 i4=some y→∃ n,∀ (R:Type)(k:Bool→Option R),ZRh n  i1 i2 i3 i4 k=k y):Zka Tryz.prog G0 51 Zfq:=by
 refine ZHa mixed tOk (Zna hΓ) Tryz.func51 rfl rfl rfl rfl (F:=Zfa Tryz.f51) (ZBa Zvb) (pat:=ZWt) (L:=Zsx) (ZFa Zvb) (on:=Z5v) (patj:=ZEr) (J:=ZCx) (fun c hc ls R k=>?_) (fun c hc p hp m ls R k r h=>?_) (fun c hc p hp m ls R k r h=>?_) (fun ps x h=>?_)
 ·rw [show (Zfa Tryz.f51).code=Zca Tryz.f51 from rfl,Zzq] at hc
  simp only [List.mem_cons,List.not_mem_nil,or_false] at hc
  rcases hc with rfl | rfl | rfl | rfl | rfl | rfl
  ·show ZBe 0 ls R k=none
   unfold ZBe
   split
   ·rfl
   ·rfl
  ·show ZWd 0 ls R k=none
   unfold ZWd
   split
   ·rfl
   ·rfl
  ·show ZTd 0 ls R k=none
   unfold ZTd
   split
   ·rfl
   ·rfl
  ·show ZPd 0 ls R k=none
   unfold ZPd
   split
   ·rfl
   ·rfl
  ·show Z2d 0 ls R k=none
   unfold Z2d
   split
   ·rfl
   ·rfl
  ·show Z0d 0 ls R k=none
   unfold Z0d
   split
   ·rfl
   ·rfl
 ·rw [show (Zfa Tryz.f51).code=Zca Tryz.f51 from rfl,Zzq] at hc
  simp only [List.mem_cons,List.not_mem_nil,or_false] at hc
  rcases hc with rfl | rfl | rfl | rfl | rfl | rfl
  ·obtain rfl:Zjo=p:=Option.some.inj hp
   change ZBe (m + 1) ls R k=some r at h
   have h':=h
   unfold ZBe at h'
   split at h'
   ·exact (ZnA m _ _ _ _ R k).trans h
   ·cases h'
  ·obtain rfl:ZYm=p:=Option.some.inj hp
   change ZWd (m + 1) ls R k=some r at h
   have h':=h
   unfold ZWd at h'
   split at h'
   ·exact (ZMz m _ _ _ _ R k).trans h
   ·cases h'
  ·obtain rfl:ZCn=p:=Option.some.inj hp
   change ZTd (m + 1) ls R k=some r at h
   have h':=h
   unfold ZTd at h'
   split at h'
   ·exact (Z7z m _ _ _ _ _ R k).trans h
   ·cases h'
  ·obtain rfl:ZIn=p:=Option.some.inj hp
   change ZPd (m + 1) ls R k=some r at h
   have h':=h
   unfold ZPd at h'
   split at h'
   ·exact (Ziz m _ _ _ _ _ _ _ _ R k).trans h
   ·cases h'
  ·obtain rfl:Zzm=p:=Option.some.inj hp
   change Z2d (m + 1) ls R k=some r at h
   have h':=h
   unfold Z2d at h'
   split at h'
   ·exact (Zwy m _ _ _ _ R k).trans h
   ·cases h'
  ·obtain rfl:Z4m=p:=Option.some.inj hp
   change Z0d (m + 1) ls R k=some r at h
   have h':=h
   unfold Z0d at h'
   split at h'
   ·exact (ZVz m _ _ _ _ _ _ _ _ R k).trans h
   ·cases h'
 ·cases (List.mem_filter.1 hc).2
 ·obtain ⟨y,hy,hx⟩:=Zba h
  cases hx
  obtain ⟨i1,i2,i3,i4,rfl⟩:=Z0D hy
  obtain ⟨n,hn⟩:=hok i1 i2 i3 i4 y hy
  exact ⟨n,(ZWF n i1 i2 i3 i4).trans (hn _ _)⟩
def Z9k {R:Type}:Nat→Int→Int→Int→Rs→(Rs→Option R)→Option R
 | 0,_,_,_,_,_=>none
 | n + 1,x4,i5,i6,a,k0 =>
  cond (decide (i6 < i5)) (
   if 0≤i6∧i6 < (a.length:Int) then
    Option.bind (a[(Int.toNat i6)]?) fun e8 =>
    Option.bind (e8[0]?) fun c9 =>
    Z9k n x4 i5 (IntKind.i64.wrap (i6 + (1:Int))) (List.set a (Int.toNat i6) (List.set e8 0 (PV.int .i64 x4))) k0
   else none) (
   k0 a)
def ZBm {R:Type} (n:Nat)(n1 x2:Int)(k:Rs→Option R):Option R :=
 if n1=n1∧0≤n1∧n1 * 8≤Zla∧1=1 then
  Z9k n x2 ((List.replicate (Int.toNat n1) [(PV.int .i64 0)]).length:Int) 0 (List.replicate (Int.toNat n1) [(PV.int .i64 0)]) k
 else none
def ZDD (y:Rs):PV × Cs:=((PV.fs y),[])
def ZYn:Nat→Int→Int→Int→Rs→Option ((Rs))
 | 0,_,_,_,_=>none
 | n + 1,x4,i5,i6,a =>
  cond (decide (i6 < i5)) (
   if 0≤i6∧i6 < (a.length:Int) then
    Option.bind (a[(Int.toNat i6)]?) fun e8 =>
    Option.bind (e8[0]?) fun c9 =>
    ZYn n x4 i5 (IntKind.i64.wrap (i6 + (1:Int))) (List.set a (Int.toNat i6) (List.set e8 0 (PV.int .i64 x4)))
   else none) (
   some a)
theorem ZPH {R:Type} (n:Nat)(x4 i5 i6:Int)(a:Rs)(k0:Rs→Option R):Tw (ZYn n x4 i5 i6 a) (Z9k n x4 i5 i6 a k0) (fun s=>match s with | a0=>k0 a0):=by
 induction n generalizing x4 i5 i6 a with
 | zero=>exact Zwa
 | succ n ih =>
  unfold ZYn Z9k
  refine Zha (fun _=>?_) (fun _=>?_)
  ·refine Zqa fun _=>?_
   refine Zaa fun e8 _=>?_
   refine Zaa fun c9 _=>?_
   exact ih _ _ _ _
  ·exact Zda rfl
def ZNa (n1 x2:Int):Option (Rs) :=
 if n1=n1∧0≤n1∧n1 * 8≤Zla∧1=1 then
  Option.bind (ZYn 9223372036854775808 x2 ((List.replicate (Int.toNat n1) [(PV.int .i64 0)]).length:Int) 0 (List.replicate (Int.toNat n1) [(PV.int .i64 0)])) fun s=>match s with
   | a =>
    some a
 else none
theorem ZbK {R:Type} (n1 x2:Int)(k:Rs→Option R):Tw (ZNa n1 x2) (ZBm 9223372036854775808 n1 x2 k) (fun s=>match s with | a0=>k a0):=by
 unfold ZNa ZBm
 refine Zqa fun _=>?_
 refine Zma (ZPH _ _ _ _ _ _) (fun s=>?_)
 rcases s with a
 ·exact Zda rfl
theorem ZhK:∀ (n1 x2:Int)(y:Rs),ZNa n1 x2=some y→∃ n,∀ (R:Type)(k:Rs→Option R),ZBm n n1 x2 k=k y:=fun n1 x2 y h=>⟨9223372036854775808,fun R k=>ZbK n1 x2 k y h⟩
def ZFw:Cs→Option (Rs)
 | [.int .i64 n1,.int .i64 x2]=>ZNa n1 x2
 | _=>none
def Zdx:List (Nat × Cal):=[]
def ZDw:Ctr:=⟨[none,none],Rs,ZFw,ZDD,false,.d⟩
def Z3i:List (Nat × LC):=[(3,⟨[1,5,10,11],[],[],[],[]⟩),
 (1003000,⟨[5],[],[],[],[]⟩)]
def ZXu:SP:=⟨Zea .undef [(1,(.val (.int .i64))),(5,(.ow 0)),(10,(.val (.int .i64))),(11,(.val (.int .i64)))] 0 20,[(.row 1)],[]⟩
def ZBz:Nat→Option SP
 | 3=>some ZXu
 | _=>none
def Zix:Nat→Option SP
 | _=>none
def Zni (n:Nat)(ls:List Leaf)(R:Type)(k:Ex→St→Option R):Option R :=
 match ls with
 | [.int x4,.int i5,.int i6,.rows a]=>Z9k n x4 i5 i6 a (fun b=>k (.exit 0) ⟨Zea .undef [(5,(TV.ow 0))] 0 20,[(Ob.row b 1)],[]⟩)
 | _=>none
def Z9D (n key:Nat) (ls:List Leaf) (R:Type) (k:Ex→St→Option R):Option R :=
 match key with
 | 3=>Zni n ls R k
 | _=>none
def ZpE (n key:Nat) (ls:List Leaf) (R:Type) (k:Ex→St→Option R):Option R :=
 match key with
 | _=>none
def ZxB:Code→Bool:=fun _=>false
def Z3D:Nat→Loops:=patL (Zsa Z3i) ZBz Z9D (ZCa Z3i) ZxB Zix ZpE
theorem ZNF (n:Nat)(x4 i5 i6:Int)(a:Rs)  (R:Type) (k:Ex→St→Option R) :
  Zza T G0 (Zja Zdx) (Zsa Z3i) (Z3D n) (Zia [1,1,0,1,0,0] (Zca Tryz.f52)) (Zoa ZXu [.int x4,.int i5,.int i6,.rows a]) R k=Zni (n + 1) [.int x4,.int i5,.int i6,.rows a] R k:=by kernel_rfl
theorem ZdK (n:Nat)(n1 x2:Int) :
  funK T G0 (Zja Zdx) (Z3D n) .d false [none,none] (Zfa Tryz.f52) [.int .i64 n1,.int .i64 x2]=ZBm n  n1 x2 (fun a0=>some (ZDD a0)):=by kernel_rfl
theorem Z2I {ps:Cs} {y:Rs} (h:ZFw ps=some y):∃ (n1:Int) (x2:Int),ps=[.int .i64 n1,.int .i64 x2]:=by
 unfold ZFw at h
 split at h
 ·exact ⟨_,_,rfl⟩
 ·cases h
theorem Zbw:Zpa (Zca Tryz.f52)=[Zia [1,1,0,1,0,0] (Zca Tryz.f52)]:=by kernel_rfl
theorem ZQF (hΓ:Zga Tryz.prog G0 Zdx) (hok:∀ (n1 x2:Int)(y:Rs),ZNa n1 x2=some y→∃ n,∀ (R:Type)(k:Rs→Option R),ZBm n  n1 x2 k=k y):Zka Tryz.prog G0 52 ZDw:=by
 refine ZHa mixed tOk (Zna hΓ) Tryz.func52 rfl rfl rfl rfl (F:=Zfa Tryz.f52) (ZBa Z3i) (pat:=ZBz) (L:=Z9D) (ZFa Z3i) (on:=ZxB) (patj:=Zix) (J:=ZpE) (fun c hc ls R k=>?_) (fun c hc p hp m ls R k r h=>?_) (fun c hc p hp m ls R k r h=>?_) (fun ps x h=>?_)
 ·rw [show (Zfa Tryz.f52).code=Zca Tryz.f52 from rfl,Zbw] at hc
  simp only [List.mem_cons,List.not_mem_nil,or_false] at hc
  rcases hc with rfl
  ·show Zni 0 ls R k=none
   unfold Zni
   split
   ·rfl
   ·rfl
 ·rw [show (Zfa Tryz.f52).code=Zca Tryz.f52 from rfl,Zbw] at hc
  simp only [List.mem_cons,List.not_mem_nil,or_false] at hc
  rcases hc with rfl
  ·obtain rfl:ZXu=p:=Option.some.inj hp
   change Zni (m + 1) ls R k=some r at h
   have h':=h
   unfold Zni at h'
   split at h'
   ·exact (ZNF m _ _ _ _ R k).trans h
   ·cases h'
 ·cases (List.mem_filter.1 hc).2
 ·obtain ⟨y,hy,hx⟩:=Zba h
  cases hx
  obtain ⟨n1,x2,rfl⟩:=Z2I hy
  obtain ⟨n,hn⟩:=hok n1 x2 y hy
  exact ⟨n,(ZdK n n1 x2).trans (hn _ _)⟩
def Zhl {R:Type} (i1 i2 i3 i4:Rs)(k:Rs→Rs→Rs→Rs→Rs→Rs→Int→Option R):Option R :=
 Option.bind (Z8d i1 i2 i3 i4) fun y5 =>
 cond (!y5) (
  k [] [] [] [] [] [] 0) (
  meet (
   if (i1.length:Int)=(i1.length:Int)∧0≤(i1.length:Int)∧(i1.length:Int) * 24≤Zla∧1=1 then
    Option.bind (ZNa (IntKind.i64.wrap ((i2.length:Int) + (1:Int))) (-1)) fun y6 =>
    Option.bind (ZNa (i1.length:Int) (-1)) fun y7 =>
    Option.bind (ZNa (i1.length:Int) 0) fun y8 =>
    Option.bind (ZNa (IntKind.i64.wrap ((i2.length:Int) + (1:Int))) 0) fun y9 =>
    Option.bind (ZNa (i1.length:Int) 0) fun a =>
    k (List.replicate (Int.toNat (i1.length:Int)) [(PV.fs [])]) y6 y7 y8 y9 a 0
   else none) (
   Option.bind (ZNa (IntKind.i64.wrap ((i2.length:Int) + (1:Int))) (-1)) fun b =>
   meet (
    if (i1.length:Int)=(i1.length:Int)∧0≤(i1.length:Int)∧(i1.length:Int) * 24≤Zla∧1=1 then
     Option.bind (ZNa (i1.length:Int) (-1)) fun d =>
     Option.bind (ZNa (i1.length:Int) 0) fun e =>
     Option.bind (ZNa (IntKind.i64.wrap ((i2.length:Int) + (1:Int))) 0) fun f =>
     Option.bind (ZNa (i1.length:Int) 0) fun g =>
     k (List.replicate (Int.toNat (i1.length:Int)) [(PV.fs [])]) b d e f g 0
    else none) (
    Option.bind (ZNa (i1.length:Int) (-1)) fun i =>
    meet (
     if (i1.length:Int)=(i1.length:Int)∧0≤(i1.length:Int)∧(i1.length:Int) * 24≤Zla∧1=1 then
      Option.bind (ZNa (i1.length:Int) 0) fun j =>
      Option.bind (ZNa (IntKind.i64.wrap ((i2.length:Int) + (1:Int))) 0) fun l =>
      Option.bind (ZNa (i1.length:Int) 0) fun o =>
      k (List.replicate (Int.toNat (i1.length:Int)) [(PV.fs [])]) b i j l o 0
     else none) (
     Option.bind (ZNa (i1.length:Int) 0) fun q =>
     meet (
      if (i1.length:Int)=(i1.length:Int)∧0≤(i1.length:Int)∧(i1.length:Int) * 24≤Zla∧1=1 then
       Option.bind (ZNa (IntKind.i64.wrap ((i2.length:Int) + (1:Int))) 0) fun t =>
       Option.bind (ZNa (i1.length:Int) 0) fun u =>
       k (List.replicate (Int.toNat (i1.length:Int)) [(PV.fs [])]) b i q t u 0
      else none) (
      Option.bind (ZNa (IntKind.i64.wrap ((i2.length:Int) + (1:Int))) 0) fun v =>
      meet (
       if (i1.length:Int)=(i1.length:Int)∧0≤(i1.length:Int)∧(i1.length:Int) * 24≤Zla∧1=1 then
        Option.bind (ZNa (i1.length:Int) 0) fun z =>
        k (List.replicate (Int.toNat (i1.length:Int)) [(PV.fs [])]) b i q v z 0
       else none) (
       Option.bind (ZNa (i1.length:Int) 0) fun A =>
       if (i1.length:Int)=(i1.length:Int)∧0≤(i1.length:Int)∧(i1.length:Int) * 24≤Zla∧1=1 then
        k (List.replicate (Int.toNat (i1.length:Int)) [(PV.fs [])]) b i q v A 0
       else none))))))
def ZYB (y:Rs × Rs × Rs × Rs × Rs × Rs × Int):PV × Cs:=((PV.agg [.fs y.1,.fs y.2.1,.fs y.2.2.1,.fs y.2.2.2.1,.fs y.2.2.2.2.1,.fs y.2.2.2.2.2.1,.int .i64 y.2.2.2.2.2.2]),[])
def Z5b (i1 i2 i3 i4:Rs):Option (Rs × Rs × Rs × Rs × Rs × Rs × Int) :=
 Option.bind (Z8d i1 i2 i3 i4) fun y5 =>
 cond (!y5) (
  some ([],[],[],[],[],[],0)) (
  if (i1.length:Int)=(i1.length:Int)∧0≤(i1.length:Int)∧(i1.length:Int) * 24≤Zla∧1=1 then
   Option.bind (ZNa (IntKind.i64.wrap ((i2.length:Int) + (1:Int))) (-1)) fun y6 =>
   Option.bind (ZNa (i1.length:Int) (-1)) fun y7 =>
   Option.bind (ZNa (i1.length:Int) 0) fun y8 =>
   Option.bind (ZNa (IntKind.i64.wrap ((i2.length:Int) + (1:Int))) 0) fun y9 =>
   Option.bind (ZNa (i1.length:Int) 0) fun a =>
   some ((List.replicate (Int.toNat (i1.length:Int)) [(PV.fs [])]),y6,y7,y8,y9,a,0)
  else none)
theorem ZTJ {R:Type} (i1 i2 i3 i4:Rs)(k:Rs→Rs→Rs→Rs→Rs→Rs→Int→Option R):Tw (Z5b i1 i2 i3 i4) (Zhl  i1 i2 i3 i4 k) (fun s=>match s with | (a0,a1,a2,a3,a4,a5,a6)=>k a0 a1 a2 a3 a4 a5 a6):=by
 unfold Z5b Zhl
 refine Zaa fun y5 _=>?_
 refine Zha (fun _=>?_) (fun _=>?_)
 ·exact Zda rfl
 ·intro s hs
  obtain ⟨a,hs⟩:=ZSa hs
  obtain ⟨y6,b,hs⟩:=Zba hs
  obtain ⟨y7,d,hs⟩:=Zba hs
  obtain ⟨y8,e,hs⟩:=Zba hs
  obtain ⟨y9,f,hs⟩:=Zba hs
  obtain ⟨g,i,hs⟩:=Zba hs
  cases e.symm.trans i
  cases hs
  simp only [a,b,d,e,f,Option.bind_some,cond_true,cond_false,if_true,if_false,ite_true,ite_false,ZGa,and_self,true_and,and_true,eq_self,not_true_eq_false,not_false_eq_true,Bool.false_eq_true,reduceCtorEq]
theorem ZqJ:∀ (i1 i2 i3 i4:Rs)(y:Rs × Rs × Rs × Rs × Rs × Rs × Int),Z5b i1 i2 i3 i4=some y→∀ (R:Type)(k:Rs→Rs→Rs→Rs→Rs→Rs→Int→Option R),Zhl  i1 i2 i3 i4 k=k y.1 y.2.1 y.2.2.1 y.2.2.2.1 y.2.2.2.2.1 y.2.2.2.2.2.1 y.2.2.2.2.2.2:=fun i1 i2 i3 i4 y h=>fun R k=>ZTJ i1 i2 i3 i4 k y h
def Z4t:Cs→Option (Rs × Rs × Rs × Rs × Rs × Rs × Int)
 | [.agg [.fs i1,.fs i2,.fs i3,.fs i4]]=>Z5b i1 i2 i3 i4
 | _=>none
def Zuu:List (Nat × Cal):=[(51,.ctr Zfq),(52,.ctr ZDw),(1000000001,ro_I)]
def ZOo:Ctr:=⟨[none],Rs × Rs × Rs × Rs × Rs × Rs × Int,Z4t,ZYB,false,.d⟩
theorem ZXI (i1 i2 i3 i4:Rs) :
  funK T G0 (Zja Zuu) noL .d false [none] (Zfa Tryz.f15) [.agg [.fs i1,.fs i2,.fs i3,.fs i4]]=Zhl  i1 i2 i3 i4 (fun a0 a1 a2 a3 a4 a5 a6=>some (ZYB (a0,a1,a2,a3,a4,a5,a6))):=by kernel_rfl
theorem ZwH {ps:Cs} {y:Rs × Rs × Rs × Rs × Rs × Rs × Int} (h:Z4t ps=some y):∃ (i1:Rs) (i2:Rs) (i3:Rs) (i4:Rs),ps=[.agg [.fs i1,.fs i2,.fs i3,.fs i4]]:=by
 unfold Z4t at h
 split at h
 ·exact ⟨_,_,_,_,rfl⟩
 ·cases h
theorem ZFE (hΓ:Zga Tryz.prog G0 Zuu) (hok:∀ (i1 i2 i3 i4:Rs)(y:Rs × Rs × Rs × Rs × Rs × Rs × Int),Z5b i1 i2 i3 i4=some y→∀ (R:Type)(k:Rs→Rs→Rs→Rs→Rs→Rs→Int→Option R),Zhl  i1 i2 i3 i4 k=k y.1 y.2.1 y.2.2.1 y.2.2.2.1 y.2.2.2.2.1 y.2.2.2.2.2.1 y.2.2.2.2.2.2):Zka Tryz.prog G0 15 ZOo:=by
 refine ZIa mixed tOk (Zna hΓ) Tryz.func15 rfl rfl rfl rfl (F:=Zfa Tryz.f15) (fun ps x h=>?_)
 obtain ⟨y,hy,hx⟩:=Zba h
 cases hx
 obtain ⟨i1,i2,i3,i4,rfl⟩:=ZwH hy
 refine ⟨noL,ZKa _,(ZXI i1 i2 i3 i4).trans (hok i1 i2 i3 i4 y hy _ _)⟩
def ZVe {R:Type}:Nat→Cs→Rs→Int→Int→Kv→Kv→Kv→(Cs→Kv→Kv→Kv→Option R)→Option R
 | 0,_,_,_,_,_,_,_,_=>none
 | n + 1,a,b,d,e,f,g,i,k0 =>
  cond (decide (e < d)) (
   Option.bind (idx b e) fun j =>
   if j.length=3 then
    Option.bind (Zra j 0 3) fun l =>
    if (PV.isAgg l 3)=true then
     Option.bind ((PV.cells l)[0]?) fun o =>
     Option.bind (PV.asI .i64 o) fun q =>
     Option.bind (mset T 3 (PV.int .i64 q) (PV.bool true) i) fun t =>
     ZVe n a b d (IntKind.i64.wrap (e + (1:Int))) f g t k0
    else none
   else none) (
   k0 a f g i)
def ZJf {R:Type}:Nat→Cs→Rs→Int→Int→Kv→Kv→Kv→(Cs→Kv→Kv→Kv→Option R)→Option R
 | 0,_,_,_,_,_,_,_,_=>none
 | n + 1,a,b,d,e,f,g,i,k0 =>
  cond (decide (e < d)) (
   Option.bind (idx b e) fun j =>
   if j.length=3 then
    Option.bind (Zra j 0 3) fun l =>
    if (PV.isAgg l 3)=true then
     Option.bind ((PV.cells l)[0]?) fun o =>
     Option.bind (PV.asI .i64 o) fun q =>
     Option.bind (mset T 3 (PV.int .i64 q) (PV.bool true) g) fun t =>
     ZJf n a b d (IntKind.i64.wrap (e + (1:Int))) f t i k0
    else none
   else none) (
   k0 a f g i)
def ZAf {R:Type}:Nat→Cs→Rs→Int→Int→Kv→Kv→Kv→(Cs→Kv→Kv→Kv→Option R)→Option R
 | 0,_,_,_,_,_,_,_,_=>none
 | n + 1,a,b,d,e,f,g,i,k0 =>
  cond (decide (e < d)) (
   Option.bind (idx b e) fun j =>
   if j.length=3 then
    Option.bind (Zra j 0 3) fun l =>
    if (PV.isAgg l 3)=true then
     Option.bind ((PV.cells l)[0]?) fun o =>
     Option.bind (PV.asI .i64 o) fun q =>
     Option.bind (mset T 3 (PV.int .i64 q) (PV.bool true) f) fun t =>
     ZAf n a b d (IntKind.i64.wrap (e + (1:Int))) t g i k0
    else none
   else none) (
   k0 a f g i)
def Zrg {R:Type} (n:Nat)(d1 d2 d3:Rs)(k:Bool→Option R):Option R :=
 ZAf n [.fs d1,.fs d2,.fs d3] d1 (d1.length:Int) 0 ([]:Kv) ([]:Kv) ([]:Kv)
  (fun (d4:Cs)(a b d:Kv) =>
   Option.bind (d4[1]?) fun c8 =>
   Option.bind (PV.asFs c8) fun e =>
   ZJf n d4 e (e.length:Int) 0 a b d
    (fun (f:Cs)(g i j:Kv) =>
     Option.bind (f[2]?) fun l =>
     Option.bind (PV.asFs l) fun o =>
     ZVe n f o (o.length:Int) 0 g i j
      (fun (q:Cs)(t u v:Kv) =>
       Option.bind (q[0]?) fun z =>
       Option.bind (PV.asFs z) fun A =>
       cond ((t.length:Int) ==(A.length:Int)) (
        Option.bind (q[1]?) fun B =>
        Option.bind (PV.asFs B) fun C =>
        cond ((u.length:Int) ==(C.length:Int)) (
         Option.bind (q[2]?) fun D =>
         Option.bind (PV.asFs D) fun E =>
         k ((v.length:Int) ==(E.length:Int))) (
         k false)) (
        k false))))
def ZWv (y:Bool):PV × Cs:=((PV.bool y),[])
def Zeg:Nat→Cs→Rs→Int→Int→Kv→Kv→Kv→Option (((Cs) × (Kv) × (Kv) × (Kv)))
 | 0,_,_,_,_,_,_,_=>none
 | n + 1,a,b,d,e,f,g,i =>
  cond (decide (e < d)) (
   Option.bind (idx b e) fun j =>
   if j.length=3 then
    Option.bind (Zra j 0 3) fun l =>
    if (PV.isAgg l 3)=true then
     Option.bind ((PV.cells l)[0]?) fun o =>
     Option.bind (PV.asI .i64 o) fun q =>
     Option.bind (mset T 3 (PV.int .i64 q) (PV.bool true) i) fun t =>
     Zeg n a b d (IntKind.i64.wrap (e + (1:Int))) f g t
    else none
   else none) (
   some (a,f,g,i))
theorem Zxz {R:Type} (n:Nat)(a:Cs)(b:Rs)(d e:Int)(f g i:Kv)(k0:Cs→Kv→Kv→Kv→Option R):Tw (Zeg n a b d e f g i) (ZVe n a b d e f g i k0) (fun s=>match s with | (a0,a1,a2,a3)=>k0 a0 a1 a2 a3):=by
 induction n generalizing a b d e f g i with
 | zero=>exact Zwa
 | succ n ih =>
  unfold Zeg ZVe
  refine Zha (fun _=>?_) (fun _=>?_)
  ·refine Zaa fun j _=>?_
   refine Zqa fun _=>?_
   refine Zaa fun l _=>?_
   refine Zqa fun _=>?_
   refine Zaa fun o _=>?_
   refine Zaa fun q _=>?_
   refine Zaa fun t _=>?_
   exact ih _ _ _ _ _ _ _
  ·exact Zda rfl
def Zth:Nat→Cs→Rs→Int→Int→Kv→Kv→Kv→Option (((Cs) × (Kv) × (Kv) × (Kv)))
 | 0,_,_,_,_,_,_,_=>none
 | n + 1,a,b,d,e,f,g,i =>
  cond (decide (e < d)) (
   Option.bind (idx b e) fun j =>
   if j.length=3 then
    Option.bind (Zra j 0 3) fun l =>
    if (PV.isAgg l 3)=true then
     Option.bind ((PV.cells l)[0]?) fun o =>
     Option.bind (PV.asI .i64 o) fun q =>
     Option.bind (mset T 3 (PV.int .i64 q) (PV.bool true) g) fun t =>
     Zth n a b d (IntKind.i64.wrap (e + (1:Int))) f t i
    else none
   else none) (
   some (a,f,g,i))
theorem ZXA {R:Type} (n:Nat)(a:Cs)(b:Rs)(d e:Int)(f g i:Kv)(k0:Cs→Kv→Kv→Kv→Option R):Tw (Zth n a b d e f g i) (ZJf n a b d e f g i k0) (fun s=>match s with | (a0,a1,a2,a3)=>k0 a0 a1 a2 a3):=by
 induction n generalizing a b d e f g i with
 | zero=>exact Zwa
 | succ n ih =>
  unfold Zth ZJf
  refine Zha (fun _=>?_) (fun _=>?_)
  ·refine Zaa fun j _=>?_
   refine Zqa fun _=>?_
   refine Zaa fun l _=>?_
   refine Zqa fun _=>?_
   refine Zaa fun o _=>?_
   refine Zaa fun q _=>?_
   refine Zaa fun t _=>?_
   exact ih _ _ _ _ _ _ _
  ·exact Zda rfl
def Zih:Nat→Cs→Rs→Int→Int→Kv→Kv→Kv→Option (((Cs) × (Kv) × (Kv) × (Kv)))
 | 0,_,_,_,_,_,_,_=>none
 | n + 1,a,b,d,e,f,g,i =>
  cond (decide (e < d)) (
   Option.bind (idx b e) fun j =>
   if j.length=3 then
    Option.bind (Zra j 0 3) fun l =>
    if (PV.isAgg l 3)=true then
     Option.bind ((PV.cells l)[0]?) fun o =>
     Option.bind (PV.asI .i64 o) fun q =>
     Option.bind (mset T 3 (PV.int .i64 q) (PV.bool true) f) fun t =>
     Zih n a b d (IntKind.i64.wrap (e + (1:Int))) t g i
    else none
   else none) (
   some (a,f,g,i))
theorem ZJA {R:Type} (n:Nat)(a:Cs)(b:Rs)(d e:Int)(f g i:Kv)(k0:Cs→Kv→Kv→Kv→Option R):Tw (Zih n a b d e f g i) (ZAf n a b d e f g i k0) (fun s=>match s with | (a0,a1,a2,a3)=>k0 a0 a1 a2 a3):=by
 induction n generalizing a b d e f g i with
 | zero=>exact Zwa
 | succ n ih =>
  unfold Zih ZAf
  refine Zha (fun _=>?_) (fun _=>?_)
  ·refine Zaa fun j _=>?_
   refine Zqa fun _=>?_
   refine Zaa fun l _=>?_
   refine Zqa fun _=>?_
   refine Zaa fun o _=>?_
   refine Zaa fun q _=>?_
   refine Zaa fun t _=>?_
   exact ih _ _ _ _ _ _ _
  ·exact Zda rfl
def Zvd (d1 d2 d3:Rs):Option (Bool) :=
 Option.bind (Zih 9223372036854775808 [.fs d1,.fs d2,.fs d3] d1 (d1.length:Int) 0 ([]:Kv) ([]:Kv) ([]:Kv)) fun s=>match s with
  | (d4,a,b,d) =>
   Option.bind (d4[1]?) fun c8 =>
   Option.bind (PV.asFs c8) fun e =>
   Option.bind (Zth 9223372036854775808 d4 e (e.length:Int) 0 a b d) fun s=>match s with
    | (f,g,i,j) =>
     Option.bind (f[2]?) fun l =>
     Option.bind (PV.asFs l) fun o =>
     Option.bind (Zeg 9223372036854775808 f o (o.length:Int) 0 g i j) fun s=>match s with
      | (q,t,u,v) =>
       Option.bind (q[0]?) fun z =>
       Option.bind (PV.asFs z) fun A =>
       cond ((t.length:Int) ==(A.length:Int)) (
        Option.bind (q[1]?) fun B =>
        Option.bind (PV.asFs B) fun C =>
        cond ((u.length:Int) ==(C.length:Int)) (
         Option.bind (q[2]?) fun D =>
         Option.bind (PV.asFs D) fun E =>
         some ((v.length:Int) ==(E.length:Int))) (
         some false)) (
        some false)
theorem ZVD {R:Type} (d1 d2 d3:Rs)(k:Bool→Option R):Tw (Zvd d1 d2 d3) (Zrg 9223372036854775808 d1 d2 d3 k) (fun s=>match s with | a0=>k a0):=by
 unfold Zvd Zrg
 refine Zma (ZJA _ _ _ _ _ _ _ _ _) (fun s=>?_)
 rcases s with ⟨d4,a,b,d⟩
 ·refine Zaa fun c8 _=>?_
  refine Zaa fun e _=>?_
  refine Zma (ZXA _ _ _ _ _ _ _ _ _) (fun s=>?_)
  rcases s with ⟨f,g,i,j⟩
  ·refine Zaa fun l _=>?_
   refine Zaa fun o _=>?_
   refine Zma (Zxz _ _ _ _ _ _ _ _ _) (fun s=>?_)
   rcases s with ⟨q,t,u,v⟩
   ·refine Zaa fun z _=>?_
    refine Zaa fun A _=>?_
    refine Zha (fun _=>?_) (fun _=>?_)
    ·refine Zaa fun B _=>?_
     refine Zaa fun C _=>?_
     refine Zha (fun _=>?_) (fun _=>?_)
     ·refine Zaa fun D _=>?_
      refine Zaa fun E _=>?_
      exact Zda rfl
     ·exact Zda rfl
    ·exact Zda rfl
theorem ZED:∀ (d1 d2 d3:Rs)(y:Bool),Zvd d1 d2 d3=some y→∃ n,∀ (R:Type)(k:Bool→Option R),Zrg n d1 d2 d3 k=k y:=fun d1 d2 d3 y h=>⟨9223372036854775808,fun R k=>ZVD d1 d2 d3 k y h⟩
def Zyo:Cs→Option (Bool)
 | [.agg [.fs d1,.fs d2,.fs d3]]=>Zvd d1 d2 d3
 | _=>none
def Zze:List (Nat × Cal):=[(1000000001,ro_I)]
def Zko:Ctr:=⟨[none],Bool,Zyo,ZWv,true,.d⟩
def ZFc:List (Nat × LC):=[(3,⟨[1,3,4,5,16,17,18],[],[],[],[1]⟩),
 (1003000,⟨[1,3,4,5],[],[],[],[]⟩),
 (8,⟨[1,3,4,5,27,28,29],[],[],[],[]⟩),
 (1008002,⟨[1,3,4,5],[],[],[],[]⟩),
 (13,⟨[1,3,4,5,38,39,40],[],[],[],[]⟩),
 (1013004,⟨[1,3,4,5],[],[],[],[]⟩)]
def ZHl:SP:=⟨Zea .undef [(1,(.val (.rp 0))),(3,(.mp 0)),(4,(.mp 1)),(5,(.mp 2)),(38,(.val .fs)),(39,(.val (.int .i64))),(40,(.val (.int .i64)))] 0 70,[.map,.map,.map],[]⟩
def ZZn:SP:=⟨Zea .undef [(1,(.val (.rp 0))),(3,(.mp 0)),(4,(.mp 1)),(5,(.mp 2)),(27,(.val .fs)),(28,(.val (.int .i64))),(29,(.val (.int .i64)))] 0 70,[.map,.map,.map],[]⟩
def Z3m:SP:=⟨Zea .undef [(1,(.val (.rp 0))),(3,(.mp 0)),(4,(.mp 1)),(5,(.mp 2)),(16,(.val .fs)),(17,(.val (.int .i64))),(18,(.val (.int .i64)))] 0 70,[.map,.map,.map],[]⟩
def Zpr:Nat→Option SP
 | 13=>some ZHl
 | 8=>some ZZn
 | 3=>some Z3m
 | _=>none
def ZGq:Nat→Option SP
 | _=>none
def Zwd (n:Nat)(ls:List Leaf)(R:Type)(k:Ex→St→Option R):Option R :=
 match ls with
 | [.cells a,.rows b,.int d,.int e,.kvs f,.kvs g,.kvs i]=>ZVe n a b d e f g i (fun j l o q=>k (.exit 4) ⟨Zea .undef [(1,(TV.val (PV.rp j 0))),(3,(TV.mp 0)),(4,(TV.mp 1)),(5,(TV.mp 2))] 0 70,[(Ob.map l),(Ob.map o),(Ob.map q)],[]⟩)
 | _=>none
def ZOd (n:Nat)(ls:List Leaf)(R:Type)(k:Ex→St→Option R):Option R :=
 match ls with
 | [.cells a,.rows b,.int d,.int e,.kvs f,.kvs g,.kvs i]=>ZJf n a b d e f g i (fun j l o q=>k (.exit 2) ⟨Zea .undef [(1,(TV.val (PV.rp j 0))),(3,(TV.mp 0)),(4,(TV.mp 1)),(5,(TV.mp 2))] 0 70,[(Ob.map l),(Ob.map o),(Ob.map q)],[]⟩)
 | _=>none
def ZXd (n:Nat)(ls:List Leaf)(R:Type)(k:Ex→St→Option R):Option R :=
 match ls with
 | [.cells a,.rows b,.int d,.int e,.kvs f,.kvs g,.kvs i]=>ZAf n a b d e f g i (fun j l o q=>k (.exit 0) ⟨Zea .undef [(1,(TV.val (PV.rp j 0))),(3,(TV.mp 0)),(4,(TV.mp 1)),(5,(TV.mp 2))] 0 70,[(Ob.map l),(Ob.map o),(Ob.map q)],[]⟩)
 | _=>none
def ZVv (n key:Nat) (ls:List Leaf) (R:Type) (k:Ex→St→Option R):Option R :=
 match key with
 | 13=>Zwd n ls R k
 | 8=>ZOd n ls R k
 | 3=>ZXd n ls R k
 | _=>none
def Zzv (n key:Nat) (ls:List Leaf) (R:Type) (k:Ex→St→Option R):Option R :=
 match key with
 | _=>none
def ZYt:Code→Bool:=fun _=>false
def ZIj:Nat→Loops:=patL (Zsa ZFc) Zpr ZVv (ZCa ZFc) ZYt ZGq Zzv
theorem ZYy (n:Nat)(a:Cs)(b:Rs)(d e:Int)(f g i:Kv)  (R:Type) (k:Ex→St→Option R) :
  Zza T G0 (Zja Zze) (Zsa ZFc) (ZIj n) (Zia [1,1,0,1,0,0] (Zca Tryz.f70)) (Zoa Z3m [.cells a,.rows b,.int d,.int e,.kvs f,.kvs g,.kvs i]) R k=ZXd (n + 1) [.cells a,.rows b,.int d,.int e,.kvs f,.kvs g,.kvs i] R k:=by kernel_rfl
theorem ZhA (n:Nat)(a:Cs)(b:Rs)(d e:Int)(f g i:Kv)  (R:Type) (k:Ex→St→Option R) :
  Zza T G0 (Zja Zze) (Zsa ZFc) (ZIj n) (Zia [1,1,1,0,1,0,0] (Zca Tryz.f70)) (Zoa ZZn [.cells a,.rows b,.int d,.int e,.kvs f,.kvs g,.kvs i]) R k=ZOd (n + 1) [.cells a,.rows b,.int d,.int e,.kvs f,.kvs g,.kvs i] R k:=by kernel_rfl
theorem Zhy (n:Nat)(a:Cs)(b:Rs)(d e:Int)(f g i:Kv)  (R:Type) (k:Ex→St→Option R) :
  Zza T G0 (Zja Zze) (Zsa ZFc) (ZIj n) (Zia [1,1,1,1,0,1,0,0] (Zca Tryz.f70)) (Zoa ZHl [.cells a,.rows b,.int d,.int e,.kvs f,.kvs g,.kvs i]) R k=Zwd (n + 1) [.cells a,.rows b,.int d,.int e,.kvs f,.kvs g,.kvs i] R k:=by kernel_rfl
theorem ZcD (n:Nat)(d1 d2 d3:Rs) :
  funK T G0 (Zja Zze) (ZIj n) .d true [none] (Zfa Tryz.f70) [.agg [.fs d1,.fs d2,.fs d3]]=Zrg n  d1 d2 d3 (fun a0=>some (ZWv a0)):=by kernel_rfl
theorem Z3C {ps:Cs} {y:Bool} (h:Zyo ps=some y):∃ (d1:Rs) (d2:Rs) (d3:Rs),ps=[.agg [.fs d1,.fs d2,.fs d3]]:=by
 unfold Zyo at h
 split at h
 ·exact ⟨_,_,_,rfl⟩
 ·cases h
theorem Zpp:Zpa (Zca Tryz.f70)=[Zia [1,1,0,1,0,0] (Zca Tryz.f70),Zia [1,1,1,0,1,0,0] (Zca Tryz.f70),Zia [1,1,1,1,0,1,0,0] (Zca Tryz.f70)]:=by kernel_rfl
theorem ZgA (hΓ:Zga Tryz.prog G0 Zze) (hok:∀ (d1 d2 d3:Rs)(y:Bool),Zvd d1 d2 d3=some y→∃ n,∀ (R:Type)(k:Bool→Option R),Zrg n  d1 d2 d3 k=k y):Zka Tryz.prog G0 70 Zko:=by
 refine ZHa mixed tOk (Zna hΓ) Tryz.func70 rfl rfl rfl rfl (F:=Zfa Tryz.f70) (ZBa ZFc) (pat:=Zpr) (L:=ZVv) (ZFa ZFc) (on:=ZYt) (patj:=ZGq) (J:=Zzv) (fun c hc ls R k=>?_) (fun c hc p hp m ls R k r h=>?_) (fun c hc p hp m ls R k r h=>?_) (fun ps x h=>?_)
 ·rw [show (Zfa Tryz.f70).code=Zca Tryz.f70 from rfl,Zpp] at hc
  simp only [List.mem_cons,List.not_mem_nil,or_false] at hc
  rcases hc with rfl | rfl | rfl
  ·show ZXd 0 ls R k=none
   unfold ZXd
   split
   ·rfl
   ·rfl
  ·show ZOd 0 ls R k=none
   unfold ZOd
   split
   ·rfl
   ·rfl
  ·show Zwd 0 ls R k=none
   unfold Zwd
   split
   ·rfl
   ·rfl
 ·rw [show (Zfa Tryz.f70).code=Zca Tryz.f70 from rfl,Zpp] at hc
  simp only [List.mem_cons,List.not_mem_nil,or_false] at hc
  rcases hc with rfl | rfl | rfl
  ·obtain rfl:Z3m=p:=Option.some.inj hp
   change ZXd (m + 1) ls R k=some r at h
   have h':=h
   unfold ZXd at h'
   split at h'
   ·exact (ZYy m _ _ _ _ _ _ _ R k).trans h
   ·cases h'
  ·obtain rfl:ZZn=p:=Option.some.inj hp
   change ZOd (m + 1) ls R k=some r at h
   have h':=h
   unfold ZOd at h'
   split at h'
   ·exact (ZhA m _ _ _ _ _ _ _ R k).trans h
   ·cases h'
  ·obtain rfl:ZHl=p:=Option.some.inj hp
   change Zwd (m + 1) ls R k=some r at h
   have h':=h
   unfold Zwd at h'
   split at h'
   ·exact (Zhy m _ _ _ _ _ _ _ R k).trans h
   ·cases h'
 ·cases (List.mem_filter.1 hc).2
 ·obtain ⟨y,hy,hx⟩:=Zba h
  cases hx
  obtain ⟨d1,d2,d3,rfl⟩:=Z3C hy
  obtain ⟨n,hn⟩:=hok d1 d2 d3 y hy
  exact ⟨n,(ZcD n d1 d2 d3).trans (hn _ _)⟩
def Ztf {R:Type}:Nat→Rs→Int→Int→Int→Int→Rs→Rs→Rs→Rs→Rs→Rs→(Int→Int→Rs→Rs→Rs→Rs→Rs→Rs→Option R)→Option R
 | 0,_,_,_,_,_,_,_,_,_,_,_,_=>none
 | n + 1,a,b,d,e,f,g,i,j,l,o,q,k0 =>
  cond (decide (d < b)) (
   Option.bind (idx a d) fun t =>
   if t.length=1 then
    Option.bind (t[0]?) fun u =>
    Option.bind (PV.asFs u) fun v =>
    meet (
     if ZJa 1 v=true then
      if (v.length) * 8≤Zla then
       if (g.length + ([[.fs v]]:Rs).length) * 24≤Zla then
        Ztf n a b (IntKind.i64.wrap (d + (1:Int))) e f (g ++ [[.fs v]]) i j l o q k0
       else none
      else none
     else none) (
     if ZJa 1 v=true then
      if (v.length) * 8≤Zla then
       (fun (z1:Option R) =>
        meet (
         z1) (
         z1)) (
        if (g.length + ([[.fs v]]:Rs).length) * 24≤Zla then
         Ztf n a b (IntKind.i64.wrap (d + (1:Int))) e f (g ++ [[.fs v]]) i j l o q k0
        else none)
      else none
     else none)
   else none) (
   k0 e f g i j l o q)
def Zwc {R:Type} (n:Nat)(a:Cs)(b d:Int)(e f g i j:Rs)(k0:Int→Rs→Rs→Rs→Rs→Rs→Rs→Option R):Option R :=
 Option.bind (a[0]?) fun l =>
 Option.bind (PV.asFs l) fun o =>
 Ztf n o (o.length:Int) 0 b d [] e f g i j
  (fun (q t:Int)(u v z A B C:Rs) =>
   k0 t u v z A B C)
def ZMi {R:Type} (n:Nat)(p1 p2 p3 p4 p5 p6:Rs)(p7:Int)(k:Rs→Rs→Rs→Rs→Rs→Rs→Int→Option R):Option R :=
 meet (
  if ZJa 1 p2=true then
   if (p2.length) * 8≤Zla then
    meet (
     if ZJa 1 p3=true then
      if (p3.length) * 8≤Zla then
       meet (
        if ZJa 1 p4=true then
         if (p4.length) * 8≤Zla then
          meet (
           if ZJa 1 p5=true then
            if (p5.length) * 8≤Zla then
             meet (
              if ZJa 1 p6=true then
               if (p6.length) * 8≤Zla then
                (fun (z2:Option R) =>
                 meet (
                  z2) (
                  z2)) (
                 Zwc n [.fs p1,.fs p2,.fs p3,.fs p4,.fs p5,.fs p6,.int .i64 p7] 0 p7 p2 p3 p4 p5 p6
                  (fun (i8:Int)(a b d e f g:Rs) =>
                   k a b d e f g i8))
               else none
              else none) (
              if ZJa 1 p6=true then
               if (p6.length) * 8≤Zla then
                Zwc n [.fs p1,.fs p2,.fs p3,.fs p4,.fs p5,.fs p6,.int .i64 p7] 0 p7 p2 p3 p4 p5 p6
                 (fun (i:Int)(j l o q t u:Rs) =>
                  k j l o q t u i)
               else none
              else none)
            else none
           else none) (
           if ZJa 1 p5=true then
            if (p5.length) * 8≤Zla then
             if ZJa 1 p6=true then
              if (p6.length) * 8≤Zla then
               Zwc n [.fs p1,.fs p2,.fs p3,.fs p4,.fs p5,.fs p6,.int .i64 p7] 0 p7 p2 p3 p4 p5 p6
                (fun (v:Int)(z A B C D E:Rs) =>
                 k z A B C D E v)
              else none
             else none
            else none
           else none)
         else none
        else none) (
        if ZJa 1 p4=true then
         if (p4.length) * 8≤Zla then
          if ZJa 1 p5=true then
           if (p5.length) * 8≤Zla then
            if ZJa 1 p6=true then
             if (p6.length) * 8≤Zla then
              Zwc n [.fs p1,.fs p2,.fs p3,.fs p4,.fs p5,.fs p6,.int .i64 p7] 0 p7 p2 p3 p4 p5 p6
               (fun (F:Int)(G H I J K L:Rs) =>
                k G H I J K L F)
             else none
            else none
           else none
          else none
         else none
        else none)
      else none
     else none) (
     if ZJa 1 p3=true then
      if (p3.length) * 8≤Zla then
       if ZJa 1 p4=true then
        if (p4.length) * 8≤Zla then
         if ZJa 1 p5=true then
          if (p5.length) * 8≤Zla then
           if ZJa 1 p6=true then
            if (p6.length) * 8≤Zla then
             Zwc n [.fs p1,.fs p2,.fs p3,.fs p4,.fs p5,.fs p6,.int .i64 p7] 0 p7 p2 p3 p4 p5 p6
              (fun (M:Int)(N O Q U V W:Rs) =>
               k N O Q U V W M)
            else none
           else none
          else none
         else none
        else none
       else none
      else none
     else none)
   else none
  else none) (
  if ZJa 1 p2=true then
   if (p2.length) * 8≤Zla then
    if ZJa 1 p3=true then
     if (p3.length) * 8≤Zla then
      if ZJa 1 p4=true then
       if (p4.length) * 8≤Zla then
        if ZJa 1 p5=true then
         if (p5.length) * 8≤Zla then
          if ZJa 1 p6=true then
           if (p6.length) * 8≤Zla then
            Zwc n [.fs p1,.fs p2,.fs p3,.fs p4,.fs p5,.fs p6,.int .i64 p7] 0 p7 p2 p3 p4 p5 p6
             (fun (X:Int)(Y Z a1 b1 c1 d1:Rs) =>
              k Y Z a1 b1 c1 d1 X)
           else none
          else none
         else none
        else none
       else none
      else none
     else none
    else none
   else none
  else none)
def Z9y (y:Rs × Rs × Rs × Rs × Rs × Rs × Int):PV × Cs:=((PV.agg [.os y.1 1,.os y.2.1 1,.os y.2.2.1 1,.os y.2.2.2.1 1,.os y.2.2.2.2.1 1,.os y.2.2.2.2.2.1 1,.int .i64 y.2.2.2.2.2.2]),[])
def ZQj:Nat→Rs→Int→Int→Int→Int→Rs→Rs→Rs→Rs→Rs→Rs→Option ((Int × Int × Rs × Rs × Rs × Rs × Rs × Rs))
 | 0,_,_,_,_,_,_,_,_,_,_,_=>none
 | n + 1,a,b,d,e,f,g,i,j,l,o,q =>
  cond (decide (d < b)) (
   Option.bind (idx a d) fun t =>
   if t.length=1 then
    Option.bind (t[0]?) fun u =>
    Option.bind (PV.asFs u) fun v =>
    if ZJa 1 v=true then
     if (v.length) * 8≤Zla then
      if (g.length + ([[.fs v]]:Rs).length) * 24≤Zla then
       ZQj n a b (IntKind.i64.wrap (d + (1:Int))) e f (g ++ [[.fs v]]) i j l o q
      else none
     else none
    else none
   else none) (
   some (e,f,g,i,j,l,o,q))
theorem ZwD {R:Type} (n:Nat)(a:Rs)(b d e f:Int)(g i j l o q:Rs)(k0:Int→Int→Rs→Rs→Rs→Rs→Rs→Rs→Option R):Tw (ZQj n a b d e f g i j l o q) (Ztf n a b d e f g i j l o q k0) (fun s=>match s with | (a0,a1,a2,a3,a4,a5,a6,a7)=>k0 a0 a1 a2 a3 a4 a5 a6 a7):=by
 induction n generalizing a b d e f g i j l o q with
 | zero=>exact Zwa
 | succ n ih =>
  unfold ZQj Ztf
  refine Zha (fun _=>?_) (fun _=>?_)
  ·refine Zaa fun t _=>?_
   refine Zqa fun _=>?_
   refine Zaa fun u _=>?_
   refine Zaa fun v _=>?_
   intro s hs
   obtain ⟨z,hs⟩:=ZSa hs
   obtain ⟨A,hs⟩:=ZSa hs
   obtain ⟨B,hs⟩:=ZSa hs
   have C:=ih _ _ _ _ _ _ _ _ _ _ _ s hs
   simp only [z,A,B,C,Option.bind_some,cond_true,cond_false,if_true,if_false,ite_true,ite_false,ZGa,and_self,true_and,and_true,eq_self,not_true_eq_false,not_false_eq_true,Bool.false_eq_true,reduceCtorEq]
  ·exact Zda rfl
def ZBo (n:Nat)(a:Cs)(b d:Int)(e f g i j:Rs):Option ((Int × Rs × Rs × Rs × Rs × Rs × Rs)) :=
 Option.bind (a[0]?) fun l =>
 Option.bind (PV.asFs l) fun o =>
 Option.bind (ZQj n o (o.length:Int) 0 b d [] e f g i j) fun s=>match s with
  | (q,t,u,v,z,A,B,C) =>
   some (t,u,v,z,A,B,C)
theorem ZRE {R:Type} (n:Nat)(a:Cs)(b d:Int)(e f g i j:Rs)(k0:Int→Rs→Rs→Rs→Rs→Rs→Rs→Option R):Tw (ZBo n a b d e f g i j) (Zwc n a b d e f g i j k0) (fun s=>match s with | (a0,a1,a2,a3,a4,a5,a6)=>k0 a0 a1 a2 a3 a4 a5 a6):=by
 unfold ZBo Zwc
 refine Zaa fun l _=>?_
 refine Zaa fun o _=>?_
 refine Zma (ZwD _ _ _ _ _ _ _ _ _ _ _ _ _) (fun s=>?_)
 rcases s with ⟨q,t,u,v,z,A,B,C⟩
 ·exact Zda rfl
def ZUe (p1 p2 p3 p4 p5 p6:Rs)(p7:Int):Option (Rs × Rs × Rs × Rs × Rs × Rs × Int) :=
 if ZJa 1 p2=true then
  if (p2.length) * 8≤Zla then
   if ZJa 1 p3=true then
    if (p3.length) * 8≤Zla then
     if ZJa 1 p4=true then
      if (p4.length) * 8≤Zla then
       if ZJa 1 p5=true then
        if (p5.length) * 8≤Zla then
         if ZJa 1 p6=true then
          if (p6.length) * 8≤Zla then
           Option.bind (ZBo 9223372036854775808 [.fs p1,.fs p2,.fs p3,.fs p4,.fs p5,.fs p6,.int .i64 p7] 0 p7 p2 p3 p4 p5 p6) fun s=>match s with
            | (i8,a,b,d,e,f,g) =>
             some (a,b,d,e,f,g,i8)
          else none
         else none
        else none
       else none
      else none
     else none
    else none
   else none
  else none
 else none
theorem ZaH {R:Type} (p1 p2 p3 p4 p5 p6:Rs)(p7:Int)(k:Rs→Rs→Rs→Rs→Rs→Rs→Int→Option R):Tw (ZUe p1 p2 p3 p4 p5 p6 p7) (ZMi 9223372036854775808 p1 p2 p3 p4 p5 p6 p7 k) (fun s=>match s with | (a0,a1,a2,a3,a4,a5,a6)=>k a0 a1 a2 a3 a4 a5 a6):=by
 unfold ZUe ZMi
 intro s hs
 obtain ⟨a,hs⟩:=ZSa hs
 obtain ⟨b,hs⟩:=ZSa hs
 obtain ⟨d,hs⟩:=ZSa hs
 obtain ⟨e,hs⟩:=ZSa hs
 obtain ⟨f,hs⟩:=ZSa hs
 obtain ⟨g,hs⟩:=ZSa hs
 obtain ⟨i,hs⟩:=ZSa hs
 obtain ⟨j,hs⟩:=ZSa hs
 obtain ⟨l,hs⟩:=ZSa hs
 obtain ⟨o,hs⟩:=ZSa hs
 obtain ⟨q,t,hs⟩:=Zba hs
 have u:=fun k0=>ZRE (R:=R) _ _ _ _ _ _ _ _ _ k0 _ t
 rcases q with ⟨i8,v,z,A,B,C,D⟩
 ·cases hs
  simp only [a,b,d,e,f,g,i,j,l,o,u,Option.bind_some,cond_true,cond_false,if_true,if_false,ite_true,ite_false,ZGa,and_self,true_and,and_true,eq_self,not_true_eq_false,not_false_eq_true,Bool.false_eq_true,reduceCtorEq]
theorem ZyH:∀ (p1 p2 p3 p4 p5 p6:Rs)(p7:Int)(y:Rs × Rs × Rs × Rs × Rs × Rs × Int),ZUe p1 p2 p3 p4 p5 p6 p7=some y→∃ n,∀ (R:Type)(k:Rs→Rs→Rs→Rs→Rs→Rs→Int→Option R),ZMi n p1 p2 p3 p4 p5 p6 p7 k=k y.1 y.2.1 y.2.2.1 y.2.2.2.1 y.2.2.2.2.1 y.2.2.2.2.2.1 y.2.2.2.2.2.2:=fun p1 p2 p3 p4 p5 p6 p7 y h=>⟨9223372036854775808,fun R k=>ZaH p1 p2 p3 p4 p5 p6 p7 k y h⟩
def ZYr:Cs→Option (Rs × Rs × Rs × Rs × Rs × Rs × Int)
 | [.agg [.fs p1,.fs p2,.fs p3,.fs p4,.fs p5,.fs p6,.int .i64 p7]]=>ZUe p1 p2 p3 p4 p5 p6 p7
 | _=>none
def ZJi:List (Nat × Cal):=[(1000000001,ro_I)]
def ZQr:Ctr:=⟨[none],Rs × Rs × Rs × Rs × Rs × Rs × Int,ZYr,Z9y,false,(.a [.s,.s,.s,.s,.s,.s,.d])⟩
def ZDe:List (Nat × LC):=[(3,⟨[2,3,25,26,27],[],[],[(3,0)],[]⟩),
 (4000003,⟨[1,2,3],[],[],[],[1]⟩),
 (1003000,⟨[2,3],[],[],[],[]⟩),
 (6000003,⟨[2],[],[],[],[]⟩)]
def ZIp:SP:=⟨Zea .undef [(2,(.ref 0 0)),(3,(.ref 1 0)),(25,(.val .fs)),(26,(.val (.int .i64))),(27,(.val (.int .i64)))] 0 40,[(.box [(.nil 1),(.nil 1),(.nil 1),(.nil 1),(.nil 1),(.nil 1),(.val (.int .i64))]),(.box [(.ow 2),(.ow 3),(.ow 4),(.ow 5),(.ow 6),(.ow 7),(.val (.int .i64))]),(.row 1),(.row 1),(.row 1),(.row 1),(.row 1),(.row 1)],[]⟩
def Zio:SP:=⟨Zea .undef [(1,(.val (.rp 0))),(2,(.ref 0 0)),(3,(.ref 1 0))] 0 40,[(.box [(.nil 1),(.nil 1),(.nil 1),(.nil 1),(.nil 1),(.nil 1),(.val (.int .i64))]),(.box [(.nil 1),(.ow 2),(.ow 3),(.ow 4),(.ow 5),(.ow 6),(.val (.int .i64))]),(.row 1),(.row 1),(.row 1),(.row 1),(.row 1)],[]⟩
def Zcw:Nat→Option SP
 | 3=>some ZIp
 | _=>none
def Ztt:Nat→Option SP
 | 3=>some Zio
 | _=>none
def Zof (n:Nat)(ls:List Leaf)(R:Type)(k:Ex→St→Option R):Option R :=
 match ls with
 | [.rows a,.int b,.int d,.int e,.int f,.rows g,.rows i,.rows j,.rows l,.rows o,.rows q]=>Ztf n a b d e f g i j l o q (fun t u v z A B C D=>k (.exit 0) ⟨Zea .undef [(2,(TV.ref 0 0)),(3,(TV.ref 1 0))] 0 40,[(Ob.box [(TV.nil 1),(TV.nil 1),(TV.nil 1),(TV.nil 1),(TV.nil 1),(TV.nil 1),(TV.val (PV.int .i64 t))]),(Ob.box [(TV.ow 2),(TV.ow 3),(TV.ow 4),(TV.ow 5),(TV.ow 6),(TV.ow 7),(TV.val (PV.int .i64 u))]),(Ob.row v 1),(Ob.row z 1),(Ob.row A 1),(Ob.row B 1),(Ob.row C 1),(Ob.row D 1)],[]⟩)
 | _=>none
def Zql (n:Nat)(ls:List Leaf)(R:Type)(k:Ex→St→Option R):Option R :=
 match ls with
 | [.cells a,.int b,.int d,.rows e,.rows f,.rows g,.rows i,.rows j]=>Zwc n a b d e f g i j (fun l o q t u v z=>k .ret ⟨Zea .undef [(2,(TV.ref 0 0))] 0 40,[(Ob.box [(TV.ow 1),(TV.ow 2),(TV.ow 3),(TV.ow 4),(TV.ow 5),(TV.ow 6),(TV.val (PV.int .i64 l))]),(Ob.row o 1),(Ob.row q 1),(Ob.row t 1),(Ob.row u 1),(Ob.row v 1),(Ob.row z 1)],[]⟩)
 | _=>none
def Z5z (n key:Nat) (ls:List Leaf) (R:Type) (k:Ex→St→Option R):Option R :=
 match key with
 | 3=>Zof n ls R k
 | _=>none
def ZQz (n key:Nat) (ls:List Leaf) (R:Type) (k:Ex→St→Option R):Option R :=
 match key with
 | 3=>Zql n ls R k
 | _=>none
def ZQp:Code→Bool:=onKeys [3]
def Zhs:Nat→Loops:=patL (Zsa ZDe) Zcw Z5z (ZCa ZDe) ZQp Ztt ZQz
theorem Z1C (n:Nat)(a:Rs)(b d e f:Int)(g i j l o q:Rs)  (R:Type) (k:Ex→St→Option R) :
  Zza T G0 (Zja ZJi) (Zsa ZDe) (Zhs n) (Zia [1,1,0,1,0,0] (Zca Tryz.f29)) (Zoa ZIp [.rows a,.int b,.int d,.int e,.int f,.rows g,.rows i,.rows j,.rows l,.rows o,.rows q]) R k=Zof (n + 1) [.rows a,.int b,.int d,.int e,.int f,.rows g,.rows i,.rows j,.rows l,.rows o,.rows q] R k:=by kernel_rfl
theorem ZqA (n:Nat)(a:Cs)(b d:Int)(e f g i j:Rs)  (R:Type) (k:Ex→St→Option R) :
  Z0a T G0 (Zja ZJi) (ZCa ZDe) (Zhs n) (Zia [1,1] (Zca Tryz.f29)) (Zoa Zio [.cells a,.int b,.int d,.rows e,.rows f,.rows g,.rows i,.rows j]) R k=Zql n [.cells a,.int b,.int d,.rows e,.rows f,.rows g,.rows i,.rows j] R k:=by kernel_rfl
theorem ZdH (n:Nat)(p1 p2 p3 p4 p5 p6:Rs)(p7:Int) :
  funK T G0 (Zja ZJi) (Zhs n) (.a [.s,.s,.s,.s,.s,.s,.d]) false [none] (Zfa Tryz.f29) [.agg [.fs p1,.fs p2,.fs p3,.fs p4,.fs p5,.fs p6,.int .i64 p7]]=ZMi n  p1 p2 p3 p4 p5 p6 p7 (fun a0 a1 a2 a3 a4 a5 a6=>some (Z9y (a0,a1,a2,a3,a4,a5,a6))):=by kernel_rfl
theorem ZnG {ps:Cs} {y:Rs × Rs × Rs × Rs × Rs × Rs × Int} (h:ZYr ps=some y):∃ (p1:Rs) (p2:Rs) (p3:Rs) (p4:Rs) (p5:Rs) (p6:Rs) (p7:Int),ps=[.agg [.fs p1,.fs p2,.fs p3,.fs p4,.fs p5,.fs p6,.int .i64 p7]]:=by
 unfold ZYr at h
 split at h
 ·exact ⟨_,_,_,_,_,_,_,rfl⟩
 ·cases h
theorem Zis:Zpa (Zca Tryz.f29)=[Zia [1,1,0,1,0,0] (Zca Tryz.f29)]:=by kernel_rfl
theorem ZIC:(ZAa (Zca Tryz.f29)).filter ZQp=[Zia [1,1] (Zca Tryz.f29)]:=by kernel_rfl
theorem ZGC (hΓ:Zga Tryz.prog G0 ZJi) (hok:∀ (p1 p2 p3 p4 p5 p6:Rs)(p7:Int)(y:Rs × Rs × Rs × Rs × Rs × Rs × Int),ZUe p1 p2 p3 p4 p5 p6 p7=some y→∃ n,∀ (R:Type)(k:Rs→Rs→Rs→Rs→Rs→Rs→Int→Option R),ZMi n  p1 p2 p3 p4 p5 p6 p7 k=k y.1 y.2.1 y.2.2.1 y.2.2.2.1 y.2.2.2.2.1 y.2.2.2.2.2.1 y.2.2.2.2.2.2):Zka Tryz.prog G0 29 ZQr:=by
 refine ZHa mixed tOk (Zna hΓ) Tryz.func29 rfl rfl rfl rfl (F:=Zfa Tryz.f29) (ZBa ZDe) (pat:=Zcw) (L:=Z5z) (ZFa ZDe) (on:=ZQp) (patj:=Ztt) (J:=ZQz) (fun c hc ls R k=>?_) (fun c hc p hp m ls R k r h=>?_) (fun c hc p hp m ls R k r h=>?_) (fun ps x h=>?_)
 ·rw [show (Zfa Tryz.f29).code=Zca Tryz.f29 from rfl,Zis] at hc
  simp only [List.mem_cons,List.not_mem_nil,or_false] at hc
  rcases hc with rfl
  ·show Zof 0 ls R k=none
   unfold Zof
   split
   ·rfl
   ·rfl
 ·rw [show (Zfa Tryz.f29).code=Zca Tryz.f29 from rfl,Zis] at hc
  simp only [List.mem_cons,List.not_mem_nil,or_false] at hc
  rcases hc with rfl
  ·obtain rfl:ZIp=p:=Option.some.inj hp
   change Zof (m + 1) ls R k=some r at h
   have h':=h
   unfold Zof at h'
   split at h'
   ·exact (Z1C m _ _ _ _ _ _ _ _ _ _ _ R k).trans h
   ·cases h'
 ·rw [show (Zfa Tryz.f29).code=Zca Tryz.f29 from rfl,ZIC] at hc
  simp only [List.mem_cons,List.not_mem_nil,or_false] at hc
  rcases hc with rfl
  ·obtain rfl:Zio=p:=Option.some.inj hp
   change Zql m ls R k=some r at h
   have h':=h
   unfold Zql at h'
   split at h'
   ·exact (ZqA m _ _ _ _ _ _ _ _ R k).trans h
   ·cases h'
 ·obtain ⟨y,hy,hx⟩:=Zba h
  cases hx
  obtain ⟨p1,p2,p3,p4,p5,p6,p7,rfl⟩:=ZnG hy
  obtain ⟨n,hn⟩:=hok p1 p2 p3 p4 p5 p6 p7 y hy
  exact ⟨n,(ZdH n p1 p2 p3 p4 p5 p6 p7).trans (hn _ _)⟩
def ZPm {R:Type}:Nat→Rs→Rs→Int→Int→(Bool→Option R)→(Unit→Option R)→Option R
 | 0,_,_,_,_,_,_=>none
 | n + 1,a4,b5,i6,i7,k0,k1 =>
  cond (decide (i7 < i6)) (
   Option.bind (idx a4 i7) fun e8 =>
   if e8.length=1 then
    Option.bind (e8[0]?) fun c9 =>
    Option.bind (PV.asI .i64 c9) fun a =>
    Option.bind (idx b5 i7) fun b =>
    if b.length=1 then
     Option.bind (b[0]?) fun d =>
     Option.bind (PV.asI .i64 d) fun e =>
     cond (a != e) (
      k0 false) (
      ZPm n a4 b5 i6 (IntKind.i64.wrap (i7 + (1:Int))) k0 k1)
    else none
   else none) (
   k1 ())
def Zep {R:Type} (n:Nat)(a1 b2:Rs)(k:Bool→Option R):Option R :=
 cond ((a1.length:Int) !=(b2.length:Int)) (
  k false) (
  ZPm n a1 b2 (a1.length:Int) 0 k
   (fun (_:Unit) =>
    k true))
def ZQG (y:Bool):PV × Cs:=((PV.bool y),[])
def ZPo:Nat→Rs→Rs→Int→Int→Option ((Bool) ⊕ (Unit))
 | 0,_,_,_,_=>none
 | n + 1,a4,b5,i6,i7 =>
  cond (decide (i7 < i6)) (
   Option.bind (idx a4 i7) fun e8 =>
   if e8.length=1 then
    Option.bind (e8[0]?) fun c9 =>
    Option.bind (PV.asI .i64 c9) fun a =>
    Option.bind (idx b5 i7) fun b =>
    if b.length=1 then
     Option.bind (b[0]?) fun d =>
     Option.bind (PV.asI .i64 d) fun e =>
     cond (a != e) (
      some (Sum.inl false)) (
      ZPo n a4 b5 i6 (IntKind.i64.wrap (i7 + (1:Int))))
    else none
   else none) (
   some (Sum.inr ()))
theorem ZLI {R:Type} (n:Nat)(a4 b5:Rs)(i6 i7:Int)(k0:Bool→Option R)(k1:Unit→Option R):Tw (ZPo n a4 b5 i6 i7) (ZPm n a4 b5 i6 i7 k0 k1) (fun s=>match s with | (Sum.inl a0)=>k0 a0 | (Sum.inr _)=>k1 ()):=by
 induction n generalizing a4 b5 i6 i7 with
 | zero=>exact Zwa
 | succ n ih =>
  unfold ZPo ZPm
  refine Zha (fun _=>?_) (fun _=>?_)
  ·refine Zaa fun e8 _=>?_
   refine Zqa fun _=>?_
   refine Zaa fun c9 _=>?_
   refine Zaa fun a _=>?_
   refine Zaa fun b _=>?_
   refine Zqa fun _=>?_
   refine Zaa fun d _=>?_
   refine Zaa fun e _=>?_
   refine Zha (fun _=>?_) (fun _=>?_)
   ·exact Zda rfl
   ·exact ih _ _ _ _
  ·exact Zda rfl
def Zve (a1 b2:Rs):Option (Bool) :=
 cond ((a1.length:Int) !=(b2.length:Int)) (
  some false) (
  Option.bind (ZPo 9223372036854775808 a1 b2 (a1.length:Int) 0) fun s=>match s with
   | (Sum.inl b3) =>
    some b3
   | (Sum.inr _) =>
    some true)
theorem Z6K {R:Type} (a1 b2:Rs)(k:Bool→Option R):Tw (Zve a1 b2) (Zep 9223372036854775808 a1 b2 k) (fun s=>match s with | a0=>k a0):=by
 unfold Zve Zep
 refine Zha (fun _=>?_) (fun _=>?_)
 ·exact Zda rfl
 ·refine Zma (ZLI _ _ _ _ _ _ _) (fun s=>?_)
  rcases s with b3 | ⟨⟩
  ·exact Zda rfl
  ·exact Zda rfl
theorem Z9K:∀ (a1 b2:Rs)(y:Bool),Zve a1 b2=some y→∃ n,∀ (R:Type)(k:Bool→Option R),Zep n a1 b2 k=k y:=fun a1 b2 y h=>⟨9223372036854775808,fun R k=>Z6K a1 b2 k y h⟩
def ZTz:Cs→Option (Bool)
 | [.fs a1,.fs b2]=>Zve a1 b2
 | _=>none
def ZZy:List (Nat × Cal):=[]
def ZXt:Ctr:=⟨[none,none],Bool,ZTz,ZQG,true,.d⟩
def ZXk:List (Nat × LC):=[(4,⟨[0,1,12,13],[],[],[],[]⟩),
 (2000004,⟨[4],[],[],[],[]⟩),
 (1004000,⟨[],[],[],[],[]⟩)]
def ZGw:SP:=⟨Zea .undef [(0,(.val .fs)),(1,(.val .fs)),(12,(.val (.int .i64))),(13,(.val (.int .i64)))] 0 26,[],[]⟩
def ZBB:Nat→Option SP
 | 4=>some ZGw
 | _=>none
def Zkz:Nat→Option SP
 | _=>none
def Zwj (n:Nat)(ls:List Leaf)(R:Type)(k:Ex→St→Option R):Option R :=
 match ls with
 | [.rows a4,.rows b5,.int i6,.int i7]=>ZPm n a4 b5 i6 i7 (fun a=>k .ret ⟨Zea .undef [(4,(TV.val (PV.bool a)))] 0 26,[],[]⟩)
   (fun _=>k (.exit 0) ⟨Zea .undef [] 0 26,[],[]⟩)
 | _=>none
def ZCG (n key:Nat) (ls:List Leaf) (R:Type) (k:Ex→St→Option R):Option R :=
 match key with
 | 4=>Zwj n ls R k
 | _=>none
def ZwG (n key:Nat) (ls:List Leaf) (R:Type) (k:Ex→St→Option R):Option R :=
 match key with
 | _=>none
def ZCE:Code→Bool:=fun _=>false
def ZSG:Nat→Loops:=patL (Zsa ZXk) ZBB ZCG (ZCa ZXk) ZCE Zkz ZwG
theorem ZEH (n:Nat)(a4 b5:Rs)(i6 i7:Int)  (R:Type) (k:Ex→St→Option R) :
  Zza T G0 (Zja ZZy) (Zsa ZXk) (ZSG n) (Zia [1,1,0,1,0,0] (Zca Tryz.f71)) (Zoa ZGw [.rows a4,.rows b5,.int i6,.int i7]) R k=Zwj (n + 1) [.rows a4,.rows b5,.int i6,.int i7] R k:=by kernel_rfl
theorem ZjL (n:Nat)(a1 b2:Rs) :
  funK T G0 (Zja ZZy) (ZSG n) .d true [none,none] (Zfa Tryz.f71) [.fs a1,.fs b2]=Zep n  a1 b2 (fun a0=>some (ZQG a0)):=by kernel_rfl
theorem ZmK {ps:Cs} {y:Bool} (h:ZTz ps=some y):∃ (a1:Rs) (b2:Rs),ps=[.fs a1,.fs b2]:=by
 unfold ZTz at h
 split at h
 ·exact ⟨_,_,rfl⟩
 ·cases h
theorem Znx:Zpa (Zca Tryz.f71)=[Zia [1,1,0,1,0,0] (Zca Tryz.f71)]:=by kernel_rfl
theorem Z2G (hΓ:Zga Tryz.prog G0 ZZy) (hok:∀ (a1 b2:Rs)(y:Bool),Zve a1 b2=some y→∃ n,∀ (R:Type)(k:Bool→Option R),Zep n  a1 b2 k=k y):Zka Tryz.prog G0 71 ZXt:=by
 refine ZHa mixed tOk (Zna hΓ) Tryz.func71 rfl rfl rfl rfl (F:=Zfa Tryz.f71) (ZBa ZXk) (pat:=ZBB) (L:=ZCG) (ZFa ZXk) (on:=ZCE) (patj:=Zkz) (J:=ZwG) (fun c hc ls R k=>?_) (fun c hc p hp m ls R k r h=>?_) (fun c hc p hp m ls R k r h=>?_) (fun ps x h=>?_)
 ·rw [show (Zfa Tryz.f71).code=Zca Tryz.f71 from rfl,Znx] at hc
  simp only [List.mem_cons,List.not_mem_nil,or_false] at hc
  rcases hc with rfl
  ·show Zwj 0 ls R k=none
   unfold Zwj
   split
   ·rfl
   ·rfl
 ·rw [show (Zfa Tryz.f71).code=Zca Tryz.f71 from rfl,Znx] at hc
  simp only [List.mem_cons,List.not_mem_nil,or_false] at hc
  rcases hc with rfl
  ·obtain rfl:ZGw=p:=Option.some.inj hp
   change Zwj (m + 1) ls R k=some r at h
   have h':=h
   unfold Zwj at h'
   split at h'
   ·exact (ZEH m _ _ _ _ R k).trans h
   ·cases h'
 ·cases (List.mem_filter.1 hc).2
 ·obtain ⟨y,hy,hx⟩:=Zba h
  cases hx
  obtain ⟨a1,b2,rfl⟩:=ZmK hy
  obtain ⟨n,hn⟩:=hok a1 b2 y hy
  exact ⟨n,(ZjL n a1 b2).trans (hn _ _)⟩
def Zyv {R:Type} (a:Rs)(b:Int)(d:Bool)(k0:Int→Bool→Option R)(k1:Rs→Int→Option R):Option R :=
 cond d (
  k0 0 false) (
  k1 a b)
def Z4y {R:Type} (l1:Rs)(k2:Int)(k:Int→Bool→Option R):Option R :=
 cond (decide (k2 < (0:Int))) (
  Zyv l1 k2 true k
   (fun (l5:Rs)(k6:Int) =>
    Option.bind (idx l5 k6) fun e7 =>
    if e7.length=1 then
     Option.bind (e7[0]?) fun c8 =>
     Option.bind (PV.asI .i64 c8) fun n9 =>
     k n9 true
    else none)) (
  Zyv l1 k2 (decide (k2 ≥ (l1.length:Int))) k
   (fun (a:Rs)(b:Int) =>
    Option.bind (idx a b) fun d =>
    if d.length=1 then
     Option.bind (d[0]?) fun e =>
     Option.bind (PV.asI .i64 e) fun f =>
     k f true
    else none))
def ZkL (y:Int × Bool):PV × Cs:=((PV.tuple [.int .i64 y.1,.bool y.2]),[])
def Ziw (a:Rs)(b:Int)(d:Bool):Option ((Int × Bool) ⊕ (Rs × Int)) :=
 cond d (
  some (Sum.inl (0,false))) (
  some (Sum.inr (a,b)))
theorem ZzG {R:Type} (a:Rs)(b:Int)(d:Bool)(k0:Int→Bool→Option R)(k1:Rs→Int→Option R):Tw (Ziw a b d) (Zyv a b d k0 k1) (fun s=>match s with | (Sum.inl (a0,a1))=>k0 a0 a1 | (Sum.inr (a0,a1))=>k1 a0 a1):=by
 unfold Ziw Zyv
 refine Zha (fun _=>?_) (fun _=>?_)
 ·exact Zda rfl
 ·exact Zda rfl
def ZZm (l1:Rs)(k2:Int):Option (Int × Bool) :=
 cond (decide (k2 < (0:Int))) (
  Option.bind (Ziw l1 k2 true) fun s=>match s with
   | (Sum.inl (i3,b4)) =>
    some (i3,b4)
   | (Sum.inr (l5,k6)) =>
    Option.bind (idx l5 k6) fun e7 =>
    if e7.length=1 then
     Option.bind (e7[0]?) fun c8 =>
     Option.bind (PV.asI .i64 c8) fun n9 =>
     some (n9,true)
    else none) (
  Option.bind (Ziw l1 k2 (decide (k2 ≥ (l1.length:Int)))) fun s=>match s with
   | (Sum.inl (a,b)) =>
    some (a,b)
   | (Sum.inr (d,e)) =>
    Option.bind (idx d e) fun f =>
    if f.length=1 then
     Option.bind (f[0]?) fun g =>
     Option.bind (PV.asI .i64 g) fun i =>
     some (i,true)
    else none)
theorem ZKL {R:Type} (l1:Rs)(k2:Int)(k:Int→Bool→Option R):Tw (ZZm l1 k2) (Z4y  l1 k2 k) (fun s=>match s with | (a0,a1)=>k a0 a1):=by
 unfold ZZm Z4y
 refine Zha (fun _=>?_) (fun _=>?_)
 ·refine Zma (ZzG _ _ _ _ _) (fun s=>?_)
  rcases s with ⟨i3,b4⟩ | ⟨l5,k6⟩
  ·exact Zda rfl
  ·refine Zaa fun e7 _=>?_
   refine Zqa fun _=>?_
   refine Zaa fun c8 _=>?_
   refine Zaa fun n9 _=>?_
   exact Zda rfl
 ·refine Zma (ZzG _ _ _ _ _) (fun s=>?_)
  rcases s with ⟨a,b⟩ | ⟨d,e⟩
  ·exact Zda rfl
  ·refine Zaa fun f _=>?_
   refine Zqa fun _=>?_
   refine Zaa fun g _=>?_
   refine Zaa fun i _=>?_
   exact Zda rfl
theorem ZIL:∀ (l1:Rs)(k2:Int)(y:Int × Bool),ZZm l1 k2=some y→∀ (R:Type)(k:Int→Bool→Option R),Z4y  l1 k2 k=k y.1 y.2:=fun l1 k2 y h=>fun R k=>ZKL l1 k2 k y h
def ZdJ:Cs→Option (Int × Bool)
 | [.fs l1,.int .i64 k2]=>ZZm l1 k2
 | _=>none
def ZFJ:List (Nat × Cal):=[]
def ZsJ:Ctr:=⟨[none,none],Int × Bool,ZdJ,ZkL,true,.d⟩
def Zcs:List (Nat × LC):=[(4000003,⟨[0,1,13],[],[],[],[]⟩),
 (6000003,⟨[4,5],[],[],[],[]⟩),
 (5000003,⟨[0,1],[],[],[],[]⟩)]
def Z5C:SP:=⟨Zea .undef [(0,(.val .fs)),(1,(.val (.int .i64))),(13,(.val .bool))] 0 18,[],[]⟩
def ZUI:Nat→Option SP
 | _=>none
def ZAG:Nat→Option SP
 | 3=>some Z5C
 | _=>none
def ZjA (n:Nat)(ls:List Leaf)(R:Type)(k:Ex→St→Option R):Option R :=
 match ls with
 | [.rows a,.int b,.bool d]=>Zyv a b d (fun e f=>k .ret ⟨Zea .undef [(4,(TV.val (PV.int .i64 e))),(5,(TV.val (PV.bool f)))] 0 18,[],[]⟩)
   (fun g i=>k .normal ⟨Zea .undef [(0,(TV.val (PV.fs g))),(1,(TV.val (PV.int .i64 i)))] 0 18,[],[]⟩)
 | _=>none
def ZpL (n key:Nat) (ls:List Leaf) (R:Type) (k:Ex→St→Option R):Option R :=
 match key with
 | _=>none
def ZuL (n key:Nat) (ls:List Leaf) (R:Type) (k:Ex→St→Option R):Option R :=
 match key with
 | 3=>ZjA n ls R k
 | _=>none
def Z4F:Code→Bool:=onKeys [3]
def ZsL:Nat→Loops:=patL (Zsa Zcs) ZUI ZpL (ZCa Zcs) Z4F ZAG ZuL
theorem ZEK (n:Nat)(a:Rs)(b:Int)(d:Bool)  (R:Type) (k:Ex→St→Option R) :
  Z0a T G0 (Zja ZFJ) (ZCa Zcs) (ZsL n) (Zia [1,0,1] (Zca Tryz.f72)) (Zoa Z5C [.rows a,.int b,.bool d]) R k=ZjA n [.rows a,.int b,.bool d] R k:=by kernel_rfl
theorem ZJL (l1:Rs)(k2:Int) :
  funK T G0 (Zja ZFJ) (ZsL 0) .d true [none,none] (Zfa Tryz.f72) [.fs l1,.int .i64 k2]=Z4y  l1 k2 (fun a0 a1=>some (ZkL (a0,a1))):=by kernel_rfl
theorem ZHL {ps:Cs} {y:Int × Bool} (h:ZdJ ps=some y):∃ (l1:Rs) (k2:Int),ps=[.fs l1,.int .i64 k2]:=by
 unfold ZdJ at h
 split at h
 ·exact ⟨_,_,rfl⟩
 ·cases h
theorem ZgD:Zpa (Zca Tryz.f72)=[]:=by kernel_rfl
theorem ZPK:(ZAa (Zca Tryz.f72)).filter Z4F=[Zia [1,0,1] (Zca Tryz.f72)]:=by kernel_rfl
theorem ZQK (hΓ:Zga Tryz.prog G0 ZFJ) (hok:∀ (l1:Rs)(k2:Int)(y:Int × Bool),ZZm l1 k2=some y→∀ (R:Type)(k:Int→Bool→Option R),Z4y  l1 k2 k=k y.1 y.2):Zka Tryz.prog G0 72 ZsJ:=by
 refine ZHa mixed tOk (Zna hΓ) Tryz.func72 rfl rfl rfl rfl (F:=Zfa Tryz.f72) (ZBa Zcs) (pat:=ZUI) (L:=ZpL) (ZFa Zcs) (on:=Z4F) (patj:=ZAG) (J:=ZuL) (fun c hc ls R k=>?_) (fun c hc p hp m ls R k r h=>?_) (fun c hc p hp m ls R k r h=>?_) (fun ps x h=>?_)
 ·rw [show (Zfa Tryz.f72).code=Zca Tryz.f72 from rfl,ZgD] at hc
  cases hc
 ·rw [show (Zfa Tryz.f72).code=Zca Tryz.f72 from rfl,ZgD] at hc
  cases hc
 ·rw [show (Zfa Tryz.f72).code=Zca Tryz.f72 from rfl,ZPK] at hc
  simp only [List.mem_cons,List.not_mem_nil,or_false] at hc
  rcases hc with rfl
  ·obtain rfl:Z5C=p:=Option.some.inj hp
   change ZjA m ls R k=some r at h
   have h':=h
   unfold ZjA at h'
   split at h'
   ·exact (ZEK m _ _ _ R k).trans h
   ·cases h'
 ·obtain ⟨y,hy,hx⟩:=Zba h
  cases hx
  obtain ⟨l1,k2,rfl⟩:=ZHL hy
  exact ⟨0,(ZJL l1 k2).trans (hok l1 k2 y hy _ _)⟩
def ZOj {R:Type}:Nat→Int→Rs→Int→Int→Rs→PV→(Int→Rs→Int→Int→Rs→PV→Option R)→Option R
 | 0,_,_,_,_,_,_,_=>none
 | n + 1,a,b,d,e,f,g,k0 =>
  cond (decide (a < (f.length:Int))) (
   if 0≤a∧a < (f.length:Int) then
    meet (
     Option.bind (f[(Int.toNat a)]?) fun i =>
     Option.bind (i[0]?) fun j =>
     Option.bind (PV.asI .i64 j) fun l =>
     Option.bind ((PV.cells g)[0]?) fun o =>
     Option.bind (PV.asI .i64 o) fun q =>
     cond (decide (l≤q)) (
      ZOj n (IntKind.i64.wrap (a + (1:Int))) b d e f g k0) (
      k0 a b d e f g)) (
     Option.bind ((PV.cells g)[0]?) fun t =>
     Option.bind (PV.asI .i64 t) fun u =>
     Option.bind (f[(Int.toNat a)]?) fun v =>
     Option.bind (v[0]?) fun z =>
     Option.bind (PV.asI .i64 z) fun A =>
     cond (decide (A≤u)) (
      ZOj n (IntKind.i64.wrap (a + (1:Int))) b d e f g k0) (
      k0 a b d e f g))
   else none) (
   (fun (z1:Option R) =>
    meet (
     z1) (
     z1)) (
    k0 a b d e f g))
def Zvj {R:Type}:Nat→Rs→Int→Int→Rs→(Rs→Option R)→Option R
 | 0,_,_,_,_,_=>none
 | n + 1,a,i4,i5,b,k0 =>
  cond (decide (i5 < i4)) (
   Option.bind (idx a i5) fun e7 =>
   if e7.length=3 then
    Option.bind (Zra e7 0 3) fun p8 =>
    if (PV.isAgg p8 3)=true then
     Option.bind ((PV.cells p8)[1]?) fun c9 =>
     Option.bind (PV.asI .i64 c9) fun d =>
     Option.bind ((PV.cells p8)[2]?) fun e =>
     Option.bind (PV.asI .i64 e) fun f =>
     cond (d == f) (
      Zvj n a i4 (IntKind.i64.wrap (i5 + (1:Int))) b k0) (
      ZOj n 0 a i4 i5 b p8
       (fun (g:Int)(i:Rs)(j i16:Int)(l:Rs)(o:PV) =>
        if (0:Int)≤(0:Int)∧(0:Int)≤g∧g=g∧g≤(l.length:Int)∧3=3 then
         if (0:Int)≤g∧g≤(l.length:Int)∧(l.length:Int)=(l.length:Int)∧(l.length:Int)≤(l.length:Int)∧3=3 then
          if (PV.isAgg o 3)=true then
           if (([(PV.cells o)]:Rs).length + ((l.drop (Int.toNat g)).take (Int.toNat ((l.length:Int) - g))).length) * 24≤Zla then
            if ((Int.toNat (g - (0:Int))) + (([(PV.cells o)]:Rs) ++ ((l.drop (Int.toNat g)).take (Int.toNat ((l.length:Int) - g)))).length) * 24≤Zla then
             Zvj n i j (IntKind.i64.wrap (i16 + (1:Int))) (((l.drop 0).take (Int.toNat (g - (0:Int)))) ++ (([(PV.cells o)]:Rs) ++ ((l.drop (Int.toNat g)).take (Int.toNat ((l.length:Int) - g))))) k0
            else none
           else none
          else none
         else none
        else none))
    else none
   else none) (
   k0 b)
def ZDp {R:Type} (n:Nat)(l1:Rs)(k:Rs→Option R):Option R :=
 Zvj n l1 (l1.length:Int) 0 [] k
def ZyG (y:Rs):PV × Cs:=((PV.fs y),[])
def Z3o:Nat→Int→Rs→Int→Int→Rs→PV→Option ((Int × Rs × Int × Int × Rs × PV))
 | 0,_,_,_,_,_,_=>none
 | n + 1,a,b,d,e,f,g =>
  cond (decide (a < (f.length:Int))) (
   if 0≤a∧a < (f.length:Int) then
    Option.bind (f[(Int.toNat a)]?) fun i =>
    Option.bind (i[0]?) fun j =>
    Option.bind (PV.asI .i64 j) fun l =>
    Option.bind ((PV.cells g)[0]?) fun o =>
    Option.bind (PV.asI .i64 o) fun q =>
    cond (decide (l≤q)) (
     Z3o n (IntKind.i64.wrap (a + (1:Int))) b d e f g) (
     some (a,b,d,e,f,g))
   else none) (
   some (a,b,d,e,f,g))
theorem ZOJ {R:Type} (n:Nat)(a:Int)(b:Rs)(d e:Int)(f:Rs)(g:PV)(k0:Int→Rs→Int→Int→Rs→PV→Option R):Tw (Z3o n a b d e f g) (ZOj n a b d e f g k0) (fun s=>match s with | (a0,a1,a2,a3,a4,a5)=>k0 a0 a1 a2 a3 a4 a5):=by
 induction n generalizing a b d e f g with
 | zero=>exact Zwa
 | succ n ih =>
  unfold Z3o ZOj
  refine Zha (fun _=>?_) (fun _=>?_)
  ·refine Zqa fun _=>?_
   intro s hs
   obtain ⟨i,j,hs⟩:=Zba hs
   obtain ⟨l,o,hs⟩:=Zba hs
   obtain ⟨q,t,hs⟩:=Zba hs
   obtain ⟨u,v,hs⟩:=Zba hs
   obtain ⟨z,A,hs⟩:=Zba hs
   rcases tw_condI hs with ⟨B,hs⟩ | ⟨B,hs⟩
   ·have C:=ih _ _ _ _ _ _ s hs
    simp only [j,o,t,v,A,B,C,Option.bind_some,cond_true,cond_false,if_true,if_false,ite_true,ite_false,ZGa,and_self,true_and,and_true,eq_self,not_true_eq_false,not_false_eq_true,Bool.false_eq_true,reduceCtorEq]
   ·cases hs
    simp only [j,o,t,v,A,B,Option.bind_some,cond_true,cond_false,if_true,if_false,ite_true,ite_false,ZGa,and_self,true_and,and_true,eq_self,not_true_eq_false,not_false_eq_true,Bool.false_eq_true,reduceCtorEq]
  ·intro s hs
   cases hs
   simp only [Option.bind_some,cond_true,cond_false,if_true,if_false,ite_true,ite_false,ZGa,and_self,true_and,and_true,eq_self,not_true_eq_false,not_false_eq_true,Bool.false_eq_true,reduceCtorEq]
def ZFk:Nat→Rs→Int→Int→Rs→Option ((Rs))
 | 0,_,_,_,_=>none
 | n + 1,a,i4,i5,b =>
  cond (decide (i5 < i4)) (
   Option.bind (idx a i5) fun e7 =>
   if e7.length=3 then
    Option.bind (Zra e7 0 3) fun p8 =>
    if (PV.isAgg p8 3)=true then
     Option.bind ((PV.cells p8)[1]?) fun c9 =>
     Option.bind (PV.asI .i64 c9) fun d =>
     Option.bind ((PV.cells p8)[2]?) fun e =>
     Option.bind (PV.asI .i64 e) fun f =>
     cond (d == f) (
      ZFk n a i4 (IntKind.i64.wrap (i5 + (1:Int))) b) (
      Option.bind (Z3o n 0 a i4 i5 b p8) fun s=>match s with
       | (g,i,j,i16,l,o) =>
        if (0:Int)≤(0:Int)∧(0:Int)≤g∧g=g∧g≤(l.length:Int)∧3=3 then
         if (0:Int)≤g∧g≤(l.length:Int)∧(l.length:Int)=(l.length:Int)∧(l.length:Int)≤(l.length:Int)∧3=3 then
          if (PV.isAgg o 3)=true then
           if (([(PV.cells o)]:Rs).length + ((l.drop (Int.toNat g)).take (Int.toNat ((l.length:Int) - g))).length) * 24≤Zla then
            if ((Int.toNat (g - (0:Int))) + (([(PV.cells o)]:Rs) ++ ((l.drop (Int.toNat g)).take (Int.toNat ((l.length:Int) - g)))).length) * 24≤Zla then
             ZFk n i j (IntKind.i64.wrap (i16 + (1:Int))) (((l.drop 0).take (Int.toNat (g - (0:Int)))) ++ (([(PV.cells o)]:Rs) ++ ((l.drop (Int.toNat g)).take (Int.toNat ((l.length:Int) - g)))))
            else none
           else none
          else none
         else none
        else none)
    else none
   else none) (
   some b)
theorem ZtJ {R:Type} (n:Nat)(a:Rs)(i4 i5:Int)(b:Rs)(k0:Rs→Option R):Tw (ZFk n a i4 i5 b) (Zvj n a i4 i5 b k0) (fun s=>match s with | a0=>k0 a0):=by
 induction n generalizing a i4 i5 b with
 | zero=>exact Zwa
 | succ n ih =>
  unfold ZFk Zvj
  refine Zha (fun _=>?_) (fun _=>?_)
  ·refine Zaa fun e7 _=>?_
   refine Zqa fun _=>?_
   refine Zaa fun p8 _=>?_
   refine Zqa fun _=>?_
   refine Zaa fun c9 _=>?_
   refine Zaa fun d _=>?_
   refine Zaa fun e _=>?_
   refine Zaa fun f _=>?_
   refine Zha (fun _=>?_) (fun _=>?_)
   ·exact ih _ _ _ _
   ·refine Zma (ZOJ _ _ _ _ _ _ _ _) (fun s=>?_)
    rcases s with ⟨g,i,j,i16,l,o⟩
    ·refine Zqa fun _=>?_
     refine Zqa fun _=>?_
     refine Zqa fun _=>?_
     refine Zqa fun _=>?_
     refine Zqa fun _=>?_
     exact ih _ _ _ _
  ·exact Zda rfl
def Zkd (l1:Rs):Option (Rs) :=
 Option.bind (ZFk 9223372036854775808 l1 (l1.length:Int) 0 []) fun s=>match s with
  | a =>
   some a
theorem ZWK {R:Type} (l1:Rs)(k:Rs→Option R):Tw (Zkd l1) (ZDp 9223372036854775808 l1 k) (fun s=>match s with | a0=>k a0):=by
 unfold Zkd ZDp
 refine Zma (ZtJ _ _ _ _ _ _) (fun s=>?_)
 rcases s with a
 ·exact Zda rfl
theorem ZcL:∀ (l1 y:Rs),Zkd l1=some y→∃ n,∀ (R:Type)(k:Rs→Option R),ZDp n l1 k=k y:=fun l1 y h=>⟨9223372036854775808,fun R k=>ZWK l1 k y h⟩
def ZAy:Cs→Option (Rs)
 | [.fs l1]=>Zkd l1
 | _=>none
def ZMt:List (Nat × Cal):=[]
def Z6y:Ctr:=⟨[none],Rs,ZAy,ZyG,false,.d⟩
def Zoi:List (Nat × LC):=[(3,⟨[3,7,8,9],[3],[],[],[]⟩),
 (7,⟨[3,5,6,7,8,9],[],[],[],[]⟩),
 (1003000,⟨[3],[],[],[],[]⟩),
 (1007002,⟨[3,5,6,7,8,9],[],[],[],[]⟩)]
def Zmw:SP:=⟨Zea .undef [(3,(.ow 0)),(5,(.ref 1 0)),(6,(.val (.int .i64))),(7,(.val .fs)),(8,(.val (.int .i64))),(9,(.val (.int .i64)))] 0 47,[(.row 3),(.pbox .any 3)],[]⟩
def Z3w:SP:=⟨Zea .undef [(3,(.ow 0)),(7,(.val .fs)),(8,(.val (.int .i64))),(9,(.val (.int .i64)))] 0 47,[(.row 3)],[]⟩
def ZfB:Nat→Option SP
 | 7=>some Zmw
 | 3=>some Z3w
 | _=>none
def Zrz:Nat→Option SP
 | _=>none
def Zzj (n:Nat)(ls:List Leaf)(R:Type)(k:Ex→St→Option R):Option R :=
 match ls with
 | [.int a,.rows b,.int d,.int e,.rows f,.pv g]=>ZOj n a b d e f g (fun i j l o q t=>k (.exit 2) ⟨Zea .undef [(3,(TV.ow 0)),(5,(TV.ref 1 0)),(6,(TV.val (PV.int .i64 i))),(7,(TV.val (PV.fs j))),(8,(TV.val (PV.int .i64 l))),(9,(TV.val (PV.int .i64 o)))] 0 47,[(Ob.row q 3),(Ob.pbox t 3)],[]⟩)
 | _=>none
def ZFj (n:Nat)(ls:List Leaf)(R:Type)(k:Ex→St→Option R):Option R :=
 match ls with
 | [.rows a,.int i4,.int i5,.rows b]=>Zvj n a i4 i5 b (fun d=>k (.exit 0) ⟨Zea .undef [(3,(TV.ow 0))] 0 47,[(Ob.row d 3)],[]⟩)
 | _=>none
def ZGG (n key:Nat) (ls:List Leaf) (R:Type) (k:Ex→St→Option R):Option R :=
 match key with
 | 7=>Zzj n ls R k
 | 3=>ZFj n ls R k
 | _=>none
def ZFG (n key:Nat) (ls:List Leaf) (R:Type) (k:Ex→St→Option R):Option R :=
 match key with
 | _=>none
def Z5D:Code→Bool:=fun _=>false
def ZFy:Nat→Loops:=patL (Zsa Zoi) ZfB ZGG (ZCa Zoi) Z5D Zrz ZFG
theorem ZdI (n:Nat)(a:Rs)(i4 i5:Int)(b:Rs)  (R:Type) (k:Ex→St→Option R) :
  Zza T G0 (Zja ZMt) (Zsa Zoi) (ZFy n) (Zia [1,1,0,1,0,0] (Zca Tryz.f140)) (Zoa Z3w [.rows a,.int i4,.int i5,.rows b]) R k=ZFj (n + 1) [.rows a,.int i4,.int i5,.rows b] R k:=by kernel_rfl
theorem ZoH (n:Nat)(a:Int)(b:Rs)(d e:Int)(f:Rs)(g:PV)  (R:Type) (k:Ex→St→Option R) :
  Zza T G0 (Zja ZMt) (Zsa Zoi) (ZFy n) (Zia [1,1,0,1,0,0,1,1,0,0,1,1,1,0,0,0] (Zca Tryz.f140)) (Zoa Zmw [.int a,.rows b,.int d,.int e,.rows f,.pv g]) R k=Zzj (n + 1) [.int a,.rows b,.int d,.int e,.rows f,.pv g] R k:=by kernel_rfl
theorem Z5K (n:Nat)(l1:Rs) :
  funK T G0 (Zja ZMt) (ZFy n) .d false [none] (Zfa Tryz.f140) [.fs l1]=ZDp n  l1 (fun a0=>some (ZyG a0)):=by kernel_rfl
theorem ZYJ {ps:Cs} {y:Rs} (h:ZAy ps=some y):∃ (l1:Rs),ps=[.fs l1]:=by
 unfold ZAy at h
 split at h
 ·exact ⟨_,rfl⟩
 ·cases h
theorem ZDx:Zpa (Zca Tryz.f140)=[Zia [1,1,0,1,0,0] (Zca Tryz.f140),Zia [1,1,0,1,0,0,1,1,0,0,1,1,1,0,0,0] (Zca Tryz.f140)]:=by kernel_rfl
theorem Z1G (hΓ:Zga Tryz.prog G0 ZMt) (hok:∀ (l1 y:Rs),Zkd l1=some y→∃ n,∀ (R:Type)(k:Rs→Option R),ZDp n  l1 k=k y):Zka Tryz.prog G0 140 Z6y:=by
 refine ZHa mixed tOk (Zna hΓ) Tryz.func140 rfl rfl rfl rfl (F:=Zfa Tryz.f140) (ZBa Zoi) (pat:=ZfB) (L:=ZGG) (ZFa Zoi) (on:=Z5D) (patj:=Zrz) (J:=ZFG) (fun c hc ls R k=>?_) (fun c hc p hp m ls R k r h=>?_) (fun c hc p hp m ls R k r h=>?_) (fun ps x h=>?_)
 ·rw [show (Zfa Tryz.f140).code=Zca Tryz.f140 from rfl,ZDx] at hc
  simp only [List.mem_cons,List.not_mem_nil,or_false] at hc
  rcases hc with rfl | rfl
  ·show ZFj 0 ls R k=none
   unfold ZFj
   split
   ·rfl
   ·rfl
  ·show Zzj 0 ls R k=none
   unfold Zzj
   split
   ·rfl
   ·rfl
 ·rw [show (Zfa Tryz.f140).code=Zca Tryz.f140 from rfl,ZDx] at hc
  simp only [List.mem_cons,List.not_mem_nil,or_false] at hc
  rcases hc with rfl | rfl
  ·obtain rfl:Z3w=p:=Option.some.inj hp
   change ZFj (m + 1) ls R k=some r at h
   have h':=h
   unfold ZFj at h'
   split at h'
   ·exact (ZdI m _ _ _ _ R k).trans h
   ·cases h'
  ·obtain rfl:Zmw=p:=Option.some.inj hp
   change Zzj (m + 1) ls R k=some r at h
   have h':=h
   unfold Zzj at h'
   split at h'
   ·exact (ZoH m _ _ _ _ _ _ R k).trans h
   ·cases h'
 ·cases (List.mem_filter.1 hc).2
 ·obtain ⟨y,hy,hx⟩:=Zba h
  cases hx
  obtain ⟨l1,rfl⟩:=ZYJ hy
  obtain ⟨n,hn⟩:=hok l1 y hy
  exact ⟨n,(Z5K n l1).trans (hn _ _)⟩
end
end Go.Proofs.YtgpjfmihogaooaaGreatDoorV
namespace Go.Proofs.YtgpjfmihogaooaaGreatDoorV
open Go
set_option maxRecDepth 100000
set_option linter.unusedVariables false
set_option linter.unusedSimpArgs false
noncomputable section
def ZWi {R:Type}:Nat→Int→Rs→Int→Int→Rs→Rs→Rs→PV→(Int→Rs→Int→Int→Rs→Rs→Rs→PV→Option R)→Option R
 | 0,_,_,_,_,_,_,_,_,_=>none
 | n + 1,a,b,d,e,f,g,i,j,k0 =>
  cond (decide (a < (i.length:Int))) (
   meet (
    if 0≤a∧a < (i.length:Int) then
     meet (
      Option.bind (i[(Int.toNat a)]?) fun l =>
      Option.bind (l[0]?) fun o =>
      Option.bind (PV.asI .i64 o) fun q =>
      Option.bind ((PV.cells j)[0]?) fun t =>
      Option.bind (PV.asI .i64 t) fun u =>
      cond (decide (q≤u)) (
       ZWi n (IntKind.i64.wrap (a + (1:Int))) b d e f g i j k0) (
       k0 a b d e f g i j)) (
      Option.bind ((PV.cells j)[0]?) fun v =>
      Option.bind (PV.asI .i64 v) fun z =>
      Option.bind (i[(Int.toNat a)]?) fun A =>
      Option.bind (A[0]?) fun B =>
      Option.bind (PV.asI .i64 B) fun C =>
      cond (decide (C≤z)) (
       ZWi n (IntKind.i64.wrap (a + (1:Int))) b d e f g i j k0) (
       k0 a b d e f g i j))
    else none) (
    Option.bind ((PV.cells j)[0]?) fun D =>
    Option.bind (PV.asI .i64 D) fun E =>
    if 0≤a∧a < (i.length:Int) then
     Option.bind (i[(Int.toNat a)]?) fun F =>
     Option.bind (F[0]?) fun G =>
     Option.bind (PV.asI .i64 G) fun H =>
     cond (decide (H≤E)) (
      ZWi n (IntKind.i64.wrap (a + (1:Int))) b d e f g i j k0) (
      k0 a b d e f g i j)
    else none)) (
   (fun (z1:Option R) =>
    meet (
     meet (
      z1) (
      z1)) (
     z1)) (
    k0 a b d e f g i j))
def Zrb {R:Type}:Nat→Rs→Int→Int→Rs→Rs→Rs→(Rs→Rs→Rs→Option R)→Option R
 | 0,_,_,_,_,_,_,_=>none
 | n + 1,a,b,d,e,f,g,k0 =>
  cond (decide (d < b)) (
   Option.bind (idx a d) fun i =>
   if i.length=3 then
    Option.bind (Zra i 0 3) fun j =>
    if (PV.isAgg j 3)=true then
     Option.bind ((PV.cells j)[1]?) fun l =>
     Option.bind (PV.asFs l) fun o =>
     Option.bind ((PV.cells j)[2]?) fun q =>
     Option.bind (PV.asFs q) fun t =>
     Option.bind (Zve o t) fun u =>
     cond u (
      Zrb n a b (IntKind.i64.wrap (d + (1:Int))) e f g k0) (
      ZWi n 0 a b d e f g j
       (fun (v:Int)(z:Rs)(A B:Int)(C D E:Rs)(F:PV) =>
        meet (
         if (0:Int)≤(0:Int)∧(0:Int)≤v∧v=v∧v≤(E.length:Int)∧3=3 then
          (fun (z2:Option R) =>
           meet (
            meet (
             if (PV.isAgg F 3)=true then
              if (0:Int)≤v∧v≤(E.length:Int)∧(E.length:Int)=(E.length:Int)∧(E.length:Int)≤(E.length:Int)∧3=3 then
               if (([(PV.cells F)]:Rs).length + ((E.drop (Int.toNat v)).take (Int.toNat ((E.length:Int) - v))).length) * 56≤Zla then
                if ((Int.toNat (v - (0:Int))) + (([(PV.cells F)]:Rs) ++ ((E.drop (Int.toNat v)).take (Int.toNat ((E.length:Int) - v)))).length) * 56≤Zla then
                 Zrb n z A (IntKind.i64.wrap (B + (1:Int))) C D (((E.drop 0).take (Int.toNat (v - (0:Int)))) ++ (([(PV.cells F)]:Rs) ++ ((E.drop (Int.toNat v)).take (Int.toNat ((E.length:Int) - v))))) k0
                else none
               else none
              else none
             else none) (
             z2)) (
            z2)) (
           if (0:Int)≤v∧v≤(E.length:Int)∧(E.length:Int)=(E.length:Int)∧(E.length:Int)≤(E.length:Int)∧3=3 then
            if (PV.isAgg F 3)=true then
             if (([(PV.cells F)]:Rs).length + ((E.drop (Int.toNat v)).take (Int.toNat ((E.length:Int) - v))).length) * 56≤Zla then
              if ((Int.toNat (v - (0:Int))) + (([(PV.cells F)]:Rs) ++ ((E.drop (Int.toNat v)).take (Int.toNat ((E.length:Int) - v)))).length) * 56≤Zla then
               Zrb n z A (IntKind.i64.wrap (B + (1:Int))) C D (((E.drop 0).take (Int.toNat (v - (0:Int)))) ++ (([(PV.cells F)]:Rs) ++ ((E.drop (Int.toNat v)).take (Int.toNat ((E.length:Int) - v))))) k0
              else none
             else none
            else none
           else none)
         else none) (
         meet (
          meet (
           if (0:Int)≤(0:Int)∧(0:Int)≤v∧v=v∧v≤(E.length:Int)∧3=3 then
            meet (
             if (PV.isAgg F 3)=true then
              if (0:Int)≤v∧v≤(E.length:Int)∧(E.length:Int)=(E.length:Int)∧(E.length:Int)≤(E.length:Int)∧3=3 then
               if (([(PV.cells F)]:Rs).length + ((E.drop (Int.toNat v)).take (Int.toNat ((E.length:Int) - v))).length) * 56≤Zla then
                if ((Int.toNat (v - (0:Int))) + (([(PV.cells F)]:Rs) ++ ((E.drop (Int.toNat v)).take (Int.toNat ((E.length:Int) - v)))).length) * 56≤Zla then
                 Zrb n z A (IntKind.i64.wrap (B + (1:Int))) C D (((E.drop 0).take (Int.toNat (v - (0:Int)))) ++ (([(PV.cells F)]:Rs) ++ ((E.drop (Int.toNat v)).take (Int.toNat ((E.length:Int) - v))))) k0
                else none
               else none
              else none
             else none) (
             if (0:Int)≤v∧v≤(E.length:Int)∧(E.length:Int)=(E.length:Int)∧(E.length:Int)≤(E.length:Int)∧3=3 then
              if (PV.isAgg F 3)=true then
               if (([(PV.cells F)]:Rs).length + ((E.drop (Int.toNat v)).take (Int.toNat ((E.length:Int) - v))).length) * 56≤Zla then
                if ((Int.toNat (v - (0:Int))) + (([(PV.cells F)]:Rs) ++ ((E.drop (Int.toNat v)).take (Int.toNat ((E.length:Int) - v)))).length) * 56≤Zla then
                 Zrb n z A (IntKind.i64.wrap (B + (1:Int))) C D (((E.drop 0).take (Int.toNat (v - (0:Int)))) ++ (([(PV.cells F)]:Rs) ++ ((E.drop (Int.toNat v)).take (Int.toNat ((E.length:Int) - v))))) k0
                else none
               else none
              else none
             else none)
           else none) (
           meet (
            if (PV.isAgg F 3)=true then
             meet (
              if (0:Int)≤(0:Int)∧(0:Int)≤v∧v=v∧v≤(E.length:Int)∧3=3 then
               if (0:Int)≤v∧v≤(E.length:Int)∧(E.length:Int)=(E.length:Int)∧(E.length:Int)≤(E.length:Int)∧3=3 then
                if (([(PV.cells F)]:Rs).length + ((E.drop (Int.toNat v)).take (Int.toNat ((E.length:Int) - v))).length) * 56≤Zla then
                 if ((Int.toNat (v - (0:Int))) + (([(PV.cells F)]:Rs) ++ ((E.drop (Int.toNat v)).take (Int.toNat ((E.length:Int) - v)))).length) * 56≤Zla then
                  Zrb n z A (IntKind.i64.wrap (B + (1:Int))) C D (((E.drop 0).take (Int.toNat (v - (0:Int)))) ++ (([(PV.cells F)]:Rs) ++ ((E.drop (Int.toNat v)).take (Int.toNat ((E.length:Int) - v))))) k0
                 else none
                else none
               else none
              else none) (
              if (0:Int)≤v∧v≤(E.length:Int)∧(E.length:Int)=(E.length:Int)∧(E.length:Int)≤(E.length:Int)∧3=3 then
               meet (
                if (0:Int)≤(0:Int)∧(0:Int)≤v∧v=v∧v≤(E.length:Int)∧3=3 then
                 if (([(PV.cells F)]:Rs).length + ((E.drop (Int.toNat v)).take (Int.toNat ((E.length:Int) - v))).length) * 56≤Zla then
                  if ((Int.toNat (v - (0:Int))) + (([(PV.cells F)]:Rs) ++ ((E.drop (Int.toNat v)).take (Int.toNat ((E.length:Int) - v)))).length) * 56≤Zla then
                   Zrb n z A (IntKind.i64.wrap (B + (1:Int))) C D (((E.drop 0).take (Int.toNat (v - (0:Int)))) ++ (([(PV.cells F)]:Rs) ++ ((E.drop (Int.toNat v)).take (Int.toNat ((E.length:Int) - v))))) k0
                  else none
                 else none
                else none) (
                if (([(PV.cells F)]:Rs).length + ((E.drop (Int.toNat v)).take (Int.toNat ((E.length:Int) - v))).length) * 56≤Zla then
                 if (0:Int)≤(0:Int)∧(0:Int)≤v∧v=v∧v≤(E.length:Int)∧3=3 then
                  if ((Int.toNat (v - (0:Int))) + (([(PV.cells F)]:Rs) ++ ((E.drop (Int.toNat v)).take (Int.toNat ((E.length:Int) - v)))).length) * 56≤Zla then
                   Zrb n z A (IntKind.i64.wrap (B + (1:Int))) C D (((E.drop 0).take (Int.toNat (v - (0:Int)))) ++ (([(PV.cells F)]:Rs) ++ ((E.drop (Int.toNat v)).take (Int.toNat ((E.length:Int) - v))))) k0
                  else none
                 else none
                else none)
              else none)
            else none) (
            if (0:Int)≤v∧v≤(E.length:Int)∧(E.length:Int)=(E.length:Int)∧(E.length:Int)≤(E.length:Int)∧3=3 then
             meet (
              if (0:Int)≤(0:Int)∧(0:Int)≤v∧v=v∧v≤(E.length:Int)∧3=3 then
               if (PV.isAgg F 3)=true then
                if (([(PV.cells F)]:Rs).length + ((E.drop (Int.toNat v)).take (Int.toNat ((E.length:Int) - v))).length) * 56≤Zla then
                 if ((Int.toNat (v - (0:Int))) + (([(PV.cells F)]:Rs) ++ ((E.drop (Int.toNat v)).take (Int.toNat ((E.length:Int) - v)))).length) * 56≤Zla then
                  Zrb n z A (IntKind.i64.wrap (B + (1:Int))) C D (((E.drop 0).take (Int.toNat (v - (0:Int)))) ++ (([(PV.cells F)]:Rs) ++ ((E.drop (Int.toNat v)).take (Int.toNat ((E.length:Int) - v))))) k0
                 else none
                else none
               else none
              else none) (
              if (PV.isAgg F 3)=true then
               meet (
                if (0:Int)≤(0:Int)∧(0:Int)≤v∧v=v∧v≤(E.length:Int)∧3=3 then
                 if (([(PV.cells F)]:Rs).length + ((E.drop (Int.toNat v)).take (Int.toNat ((E.length:Int) - v))).length) * 56≤Zla then
                  if ((Int.toNat (v - (0:Int))) + (([(PV.cells F)]:Rs) ++ ((E.drop (Int.toNat v)).take (Int.toNat ((E.length:Int) - v)))).length) * 56≤Zla then
                   Zrb n z A (IntKind.i64.wrap (B + (1:Int))) C D (((E.drop 0).take (Int.toNat (v - (0:Int)))) ++ (([(PV.cells F)]:Rs) ++ ((E.drop (Int.toNat v)).take (Int.toNat ((E.length:Int) - v))))) k0
                  else none
                 else none
                else none) (
                if (([(PV.cells F)]:Rs).length + ((E.drop (Int.toNat v)).take (Int.toNat ((E.length:Int) - v))).length) * 56≤Zla then
                 if (0:Int)≤(0:Int)∧(0:Int)≤v∧v=v∧v≤(E.length:Int)∧3=3 then
                  if ((Int.toNat (v - (0:Int))) + (([(PV.cells F)]:Rs) ++ ((E.drop (Int.toNat v)).take (Int.toNat ((E.length:Int) - v)))).length) * 56≤Zla then
                   Zrb n z A (IntKind.i64.wrap (B + (1:Int))) C D (((E.drop 0).take (Int.toNat (v - (0:Int)))) ++ (([(PV.cells F)]:Rs) ++ ((E.drop (Int.toNat v)).take (Int.toNat ((E.length:Int) - v))))) k0
                  else none
                 else none
                else none)
              else none)
            else none))) (
          if (0:Int)≤v∧v≤(E.length:Int)∧(E.length:Int)=(E.length:Int)∧(E.length:Int)≤(E.length:Int)∧3=3 then
           (fun (z3:Option R) =>
            meet (
             z3) (
             meet (
              z3) (
              if (PV.isAgg F 3)=true then
               meet (
                if (0:Int)≤(0:Int)∧(0:Int)≤v∧v=v∧v≤(E.length:Int)∧3=3 then
                 if (([(PV.cells F)]:Rs).length + ((E.drop (Int.toNat v)).take (Int.toNat ((E.length:Int) - v))).length) * 56≤Zla then
                  if ((Int.toNat (v - (0:Int))) + (([(PV.cells F)]:Rs) ++ ((E.drop (Int.toNat v)).take (Int.toNat ((E.length:Int) - v)))).length) * 56≤Zla then
                   Zrb n z A (IntKind.i64.wrap (B + (1:Int))) C D (((E.drop 0).take (Int.toNat (v - (0:Int)))) ++ (([(PV.cells F)]:Rs) ++ ((E.drop (Int.toNat v)).take (Int.toNat ((E.length:Int) - v))))) k0
                  else none
                 else none
                else none) (
                if (([(PV.cells F)]:Rs).length + ((E.drop (Int.toNat v)).take (Int.toNat ((E.length:Int) - v))).length) * 56≤Zla then
                 if (0:Int)≤(0:Int)∧(0:Int)≤v∧v=v∧v≤(E.length:Int)∧3=3 then
                  if ((Int.toNat (v - (0:Int))) + (([(PV.cells F)]:Rs) ++ ((E.drop (Int.toNat v)).take (Int.toNat ((E.length:Int) - v)))).length) * 56≤Zla then
                   Zrb n z A (IntKind.i64.wrap (B + (1:Int))) C D (((E.drop 0).take (Int.toNat (v - (0:Int)))) ++ (([(PV.cells F)]:Rs) ++ ((E.drop (Int.toNat v)).take (Int.toNat ((E.length:Int) - v))))) k0
                  else none
                 else none
                else none)
              else none))) (
            if (0:Int)≤(0:Int)∧(0:Int)≤v∧v=v∧v≤(E.length:Int)∧3=3 then
             if (PV.isAgg F 3)=true then
              if (([(PV.cells F)]:Rs).length + ((E.drop (Int.toNat v)).take (Int.toNat ((E.length:Int) - v))).length) * 56≤Zla then
               if ((Int.toNat (v - (0:Int))) + (([(PV.cells F)]:Rs) ++ ((E.drop (Int.toNat v)).take (Int.toNat ((E.length:Int) - v)))).length) * 56≤Zla then
                Zrb n z A (IntKind.i64.wrap (B + (1:Int))) C D (((E.drop 0).take (Int.toNat (v - (0:Int)))) ++ (([(PV.cells F)]:Rs) ++ ((E.drop (Int.toNat v)).take (Int.toNat ((E.length:Int) - v))))) k0
               else none
              else none
             else none
            else none)
          else none))))
    else none
   else none) (
   k0 e f g)
def ZSl {R:Type} (n:Nat)(a:Cs)(b d:Rs)(k0:Rs→Rs→Rs→Option R):Option R :=
 Option.bind (a[0]?) fun e =>
 Option.bind (PV.asFs e) fun f =>
 Zrb n f (f.length:Int) 0 b d [] k0
def ZBs {R:Type} (n:Nat)(d1 d2 d3:Rs)(k:Rs→Rs→Rs→Option R):Option R :=
 meet (
  Option.bind (Zkd d2) fun y4 =>
  meet (
   Option.bind (Zkd d3) fun y5 =>
   (fun (z4:Option R) =>
    meet (
     z4) (
     z4)) (
    ZSl n [.fs d1,.fs d2,.fs d3] y4 y5
     (fun (a b d:Rs) =>
      k d a b))) (
   Option.bind (Zkd d3) fun e =>
   ZSl n [.fs d1,.fs d2,.fs d3] y4 e
    (fun (f g i:Rs) =>
     k i f g))) (
  Option.bind (Zkd d2) fun j =>
  Option.bind (Zkd d3) fun l =>
  ZSl n [.fs d1,.fs d2,.fs d3] j l
   (fun (o q t:Rs) =>
    k t o q))
def ZAJ (y:Rs × Rs × Rs):PV × Cs:=((PV.agg [.fs y.1,.fs y.2.1,.fs y.2.2]),[])
def Zcr:Nat→Int→Rs→Int→Int→Rs→Rs→Rs→PV→Option ((Int × Rs × Int × Int × Rs × Rs × Rs × PV))
 | 0,_,_,_,_,_,_,_,_=>none
 | n + 1,a,b,d,e,f,g,i,j =>
  cond (decide (a < (i.length:Int))) (
   if 0≤a∧a < (i.length:Int) then
    Option.bind (i[(Int.toNat a)]?) fun l =>
    Option.bind (l[0]?) fun o =>
    Option.bind (PV.asI .i64 o) fun q =>
    Option.bind ((PV.cells j)[0]?) fun t =>
    Option.bind (PV.asI .i64 t) fun u =>
    cond (decide (q≤u)) (
     Zcr n (IntKind.i64.wrap (a + (1:Int))) b d e f g i j) (
     some (a,b,d,e,f,g,i,j))
   else none) (
   some (a,b,d,e,f,g,i,j))
theorem ZvK {R:Type} (n:Nat)(a:Int)(b:Rs)(d e:Int)(f g i:Rs)(j:PV)(k0:Int→Rs→Int→Int→Rs→Rs→Rs→PV→Option R):Tw (Zcr n a b d e f g i j) (ZWi n a b d e f g i j k0) (fun s=>match s with | (a0,a1,a2,a3,a4,a5,a6,a7)=>k0 a0 a1 a2 a3 a4 a5 a6 a7):=by
 induction n generalizing a b d e f g i j with
 | zero=>exact Zwa
 | succ n ih =>
  unfold Zcr ZWi
  refine Zha (fun _=>?_) (fun _=>?_)
  ·intro s hs
   obtain ⟨l,hs⟩:=ZSa hs
   obtain ⟨o,q,hs⟩:=Zba hs
   obtain ⟨t,u,hs⟩:=Zba hs
   obtain ⟨v,z,hs⟩:=Zba hs
   obtain ⟨A,B,hs⟩:=Zba hs
   obtain ⟨C,D,hs⟩:=Zba hs
   rcases tw_condI hs with ⟨E,hs⟩ | ⟨E,hs⟩
   ·have F:=ih _ _ _ _ _ _ _ _ s hs
    simp only [l,q,u,z,B,D,E,F,Option.bind_some,cond_true,cond_false,if_true,if_false,ite_true,ite_false,ZGa,and_self,true_and,and_true,eq_self,not_true_eq_false,not_false_eq_true,Bool.false_eq_true,reduceCtorEq]
   ·cases hs
    simp only [l,q,u,z,B,D,E,Option.bind_some,cond_true,cond_false,if_true,if_false,ite_true,ite_false,ZGa,and_self,true_and,and_true,eq_self,not_true_eq_false,not_false_eq_true,Bool.false_eq_true,reduceCtorEq]
  ·intro s hs
   cases hs
   simp only [Option.bind_some,cond_true,cond_false,if_true,if_false,ite_true,ite_false,ZGa,and_self,true_and,and_true,eq_self,not_true_eq_false,not_false_eq_true,Bool.false_eq_true,reduceCtorEq]
def Z8m:Nat→Rs→Int→Int→Rs→Rs→Rs→Option ((Rs × Rs × Rs))
 | 0,_,_,_,_,_,_=>none
 | n + 1,a,b,d,e,f,g =>
  cond (decide (d < b)) (
   Option.bind (idx a d) fun i =>
   if i.length=3 then
    Option.bind (Zra i 0 3) fun j =>
    if (PV.isAgg j 3)=true then
     Option.bind ((PV.cells j)[1]?) fun l =>
     Option.bind (PV.asFs l) fun o =>
     Option.bind ((PV.cells j)[2]?) fun q =>
     Option.bind (PV.asFs q) fun t =>
     Option.bind (Zve o t) fun u =>
     cond u (
      Z8m n a b (IntKind.i64.wrap (d + (1:Int))) e f g) (
      Option.bind (Zcr n 0 a b d e f g j) fun s=>match s with
       | (v,z,A,B,C,D,E,F) =>
        if (0:Int)≤(0:Int)∧(0:Int)≤v∧v=v∧v≤(E.length:Int)∧3=3 then
         if (PV.isAgg F 3)=true then
          if (0:Int)≤v∧v≤(E.length:Int)∧(E.length:Int)=(E.length:Int)∧(E.length:Int)≤(E.length:Int)∧3=3 then
           if (([(PV.cells F)]:Rs).length + ((E.drop (Int.toNat v)).take (Int.toNat ((E.length:Int) - v))).length) * 56≤Zla then
            if ((Int.toNat (v - (0:Int))) + (([(PV.cells F)]:Rs) ++ ((E.drop (Int.toNat v)).take (Int.toNat ((E.length:Int) - v)))).length) * 56≤Zla then
             Z8m n z A (IntKind.i64.wrap (B + (1:Int))) C D (((E.drop 0).take (Int.toNat (v - (0:Int)))) ++ (([(PV.cells F)]:Rs) ++ ((E.drop (Int.toNat v)).take (Int.toNat ((E.length:Int) - v)))))
            else none
           else none
          else none
         else none
        else none)
    else none
   else none) (
   some (e,f,g))
theorem ZHK {R:Type} (n:Nat)(a:Rs)(b d:Int)(e f g:Rs)(k0:Rs→Rs→Rs→Option R):Tw (Z8m n a b d e f g) (Zrb n a b d e f g k0) (fun s=>match s with | (a0,a1,a2)=>k0 a0 a1 a2):=by
 induction n generalizing a b d e f g with
 | zero=>exact Zwa
 | succ n ih =>
  unfold Z8m Zrb
  refine Zha (fun _=>?_) (fun _=>?_)
  ·refine Zaa fun i _=>?_
   refine Zqa fun _=>?_
   refine Zaa fun j _=>?_
   refine Zqa fun _=>?_
   refine Zaa fun l _=>?_
   refine Zaa fun o _=>?_
   refine Zaa fun q _=>?_
   refine Zaa fun t _=>?_
   refine Zaa fun u _=>?_
   refine Zha (fun _=>?_) (fun _=>?_)
   ·exact ih _ _ _ _ _ _
   ·refine Zma (ZvK _ _ _ _ _ _ _ _ _ _) (fun s=>?_)
    rcases s with ⟨v,z,A,B,C,D,E,F⟩
    ·intro s hs
     obtain ⟨G,hs⟩:=ZSa hs
     obtain ⟨H,hs⟩:=ZSa hs
     obtain ⟨I,hs⟩:=ZSa hs
     obtain ⟨J,hs⟩:=ZSa hs
     obtain ⟨K,hs⟩:=ZSa hs
     have L:=ih _ _ _ _ _ _ s hs
     simp only [G,H,I,J,K,L,Option.bind_some,cond_true,cond_false,if_true,if_false,ite_true,ite_false,ZGa,and_self,true_and,and_true,eq_self,not_true_eq_false,not_false_eq_true,Bool.false_eq_true,reduceCtorEq]
  ·exact Zda rfl
def Zvw (n:Nat)(a:Cs)(b d:Rs):Option ((Rs × Rs × Rs)) :=
 Option.bind (a[0]?) fun e =>
 Option.bind (PV.asFs e) fun f =>
 Option.bind (Z8m n f (f.length:Int) 0 b d []) fun s=>match s with
  | (g,i,j) =>
   some (g,i,j)
theorem Z8J {R:Type} (n:Nat)(a:Cs)(b d:Rs)(k0:Rs→Rs→Rs→Option R):Tw (Zvw n a b d) (ZSl n a b d k0) (fun s=>match s with | (a0,a1,a2)=>k0 a0 a1 a2):=by
 unfold Zvw ZSl
 refine Zaa fun e _=>?_
 refine Zaa fun f _=>?_
 refine Zma (ZHK _ _ _ _ _ _ _ _) (fun s=>?_)
 rcases s with ⟨g,i,j⟩
 ·exact Zda rfl
def Zrr (d1 d2 d3:Rs):Option (Rs × Rs × Rs) :=
 Option.bind (Zkd d2) fun y4 =>
 Option.bind (Zkd d3) fun y5 =>
 Option.bind (Zvw 9223372036854775808 [.fs d1,.fs d2,.fs d3] y4 y5) fun s=>match s with
  | (a,b,d) =>
   some (d,a,b)
theorem ZzL {R:Type} (d1 d2 d3:Rs)(k:Rs→Rs→Rs→Option R):Tw (Zrr d1 d2 d3) (ZBs 9223372036854775808 d1 d2 d3 k) (fun s=>match s with | (a0,a1,a2)=>k a0 a1 a2):=by
 unfold Zrr ZBs
 intro s hs
 obtain ⟨y4,a,hs⟩:=Zba hs
 obtain ⟨y5,b,hs⟩:=Zba hs
 obtain ⟨d,e,hs⟩:=Zba hs
 have f:=fun k0=>Z8J (R:=R) _ _ _ _ k0 _ e
 rcases d with ⟨g,i,j⟩
 ·cases hs
  simp only [a,b,f,Option.bind_some,cond_true,cond_false,if_true,if_false,ite_true,ite_false,ZGa,and_self,true_and,and_true,eq_self,not_true_eq_false,not_false_eq_true,Bool.false_eq_true,reduceCtorEq]
theorem ZvL:∀ (d1 d2 d3:Rs)(y:Rs × Rs × Rs),Zrr d1 d2 d3=some y→∃ n,∀ (R:Type)(k:Rs→Rs→Rs→Option R),ZBs n d1 d2 d3 k=k y.1 y.2.1 y.2.2:=fun d1 d2 d3 y h=>⟨9223372036854775808,fun R k=>ZzL d1 d2 d3 k y h⟩
def Zms:Cs→Option (Rs × Rs × Rs)
 | [.agg [.fs d1,.fs d2,.fs d3]]=>Zrr d1 d2 d3
 | _=>none
def ZGo:List (Nat × Cal):=[(140,.ctr Z6y),(71,.ctr ZXt),(1000000001,ro_I)]
def Z2B:Ctr:=⟨[none],Rs × Rs × Rs,Zms,ZAJ,false,.d⟩
def Zkh:List (Nat × LC):=[(3,⟨[2,3,15,16,17],[],[],[(3,0)],[]⟩),
 (4000003,⟨[1,2,3],[],[],[],[1]⟩),
 (7,⟨[2,3,5,6,15,16,17],[],[],[],[]⟩),
 (1003000,⟨[2,3],[],[],[],[]⟩),
 (1007002,⟨[2,3,5,6,15,16,17],[],[],[],[]⟩),
 (6000003,⟨[2],[],[],[],[]⟩)]
def Z5y:SP:=⟨Zea .undef [(2,(.ref 0 0)),(3,(.ref 1 0)),(5,(.ref 3 0)),(6,(.val (.int .i64))),(15,(.val .fs)),(16,(.val (.int .i64))),(17,(.val (.int .i64)))] 0 60,[(.box [(.nil 3),(.nil 3),(.nil 3)]),(.box [(.ow 2),(.val .fs),(.val .fs)]),(.row 3),(.pbox .any 3)],[]⟩
def ZaA:SP:=⟨Zea .undef [(2,(.ref 0 0)),(3,(.ref 1 0)),(15,(.val .fs)),(16,(.val (.int .i64))),(17,(.val (.int .i64)))] 0 60,[(.box [(.nil 3),(.nil 3),(.nil 3)]),(.box [(.ow 2),(.val .fs),(.val .fs)]),(.row 3)],[]⟩
def Znw:SP:=⟨Zea .undef [(1,(.val (.rp 0))),(2,(.ref 0 0)),(3,(.ref 1 0))] 0 60,[(.box [(.nil 3),(.nil 3),(.nil 3)]),(.box [(.nil 3),(.val .fs),(.val .fs)])],[]⟩
def ZsE:Nat→Option SP
 | 7=>some Z5y
 | 3=>some ZaA
 | _=>none
def ZOB:Nat→Option SP
 | 3=>some Znw
 | _=>none
def Z5l (n:Nat)(ls:List Leaf)(R:Type)(k:Ex→St→Option R):Option R :=
 match ls with
 | [.int a,.rows b,.int d,.int e,.rows f,.rows g,.rows i,.pv j]=>ZWi n a b d e f g i j (fun l o q t u v z A=>k (.exit 2) ⟨Zea .undef [(2,(TV.ref 0 0)),(3,(TV.ref 1 0)),(5,(TV.ref 3 0)),(6,(TV.val (PV.int .i64 l))),(15,(TV.val (PV.fs o))),(16,(TV.val (PV.int .i64 q))),(17,(TV.val (PV.int .i64 t)))] 0 60,[(Ob.box [(TV.nil 3),(TV.nil 3),(TV.nil 3)]),(Ob.box [(TV.ow 2),(TV.val (PV.fs u)),(TV.val (PV.fs v))]),(Ob.row z 3),(Ob.pbox A 3)],[]⟩)
 | _=>none
def Z9l (n:Nat)(ls:List Leaf)(R:Type)(k:Ex→St→Option R):Option R :=
 match ls with
 | [.rows a,.int b,.int d,.rows e,.rows f,.rows g]=>Zrb n a b d e f g (fun i j l=>k (.exit 0) ⟨Zea .undef [(2,(TV.ref 0 0)),(3,(TV.ref 1 0))] 0 60,[(Ob.box [(TV.nil 3),(TV.nil 3),(TV.nil 3)]),(Ob.box [(TV.ow 2),(TV.val (PV.fs i)),(TV.val (PV.fs j))]),(Ob.row l 3)],[]⟩)
 | _=>none
def Zmt (n:Nat)(ls:List Leaf)(R:Type)(k:Ex→St→Option R):Option R :=
 match ls with
 | [.cells a,.rows b,.rows d]=>ZSl n a b d (fun e f g=>k .ret ⟨Zea .undef [(2,(TV.ref 0 0))] 0 60,[(Ob.box [(TV.ow 1),(TV.val (PV.fs e)),(TV.val (PV.fs f))]),(Ob.row g 3)],[]⟩)
 | _=>none
def ZJJ (n key:Nat) (ls:List Leaf) (R:Type) (k:Ex→St→Option R):Option R :=
 match key with
 | 7=>Z5l n ls R k
 | 3=>Z9l n ls R k
 | _=>none
def ZKJ (n key:Nat) (ls:List Leaf) (R:Type) (k:Ex→St→Option R):Option R :=
 match key with
 | 3=>Zmt n ls R k
 | _=>none
def Zvy:Code→Bool:=onKeys [3]
def ZEw:Nat→Loops:=patL (Zsa Zkh) ZsE ZJJ (ZCa Zkh) Zvy ZOB ZKJ
theorem ZzI (n:Nat)(a:Rs)(b d:Int)(e f g:Rs)  (R:Type) (k:Ex→St→Option R) :
  Zza T G0 (Zja ZGo) (Zsa Zkh) (ZEw n) (Zia [1,1,0,1,0,0] (Zca Tryz.f66)) (Zoa ZaA [.rows a,.int b,.int d,.rows e,.rows f,.rows g]) R k=Z9l (n + 1) [.rows a,.int b,.int d,.rows e,.rows f,.rows g] R k:=by kernel_rfl
theorem ZkJ (n:Nat)(a:Int)(b:Rs)(d e:Int)(f g i:Rs)(j:PV)  (R:Type) (k:Ex→St→Option R) :
  Zza T G0 (Zja ZGo) (Zsa Zkh) (ZEw n) (Zia [1,1,0,1,0,0,1,1,0,0,1,1,1,0,0,0] (Zca Tryz.f66)) (Zoa Z5y [.int a,.rows b,.int d,.int e,.rows f,.rows g,.rows i,.pv j]) R k=Z5l (n + 1) [.int a,.rows b,.int d,.int e,.rows f,.rows g,.rows i,.pv j] R k:=by kernel_rfl
theorem ZAH (n:Nat)(a:Cs)(b d:Rs)  (R:Type) (k:Ex→St→Option R) :
  Z0a T G0 (Zja ZGo) (ZCa Zkh) (ZEw n) (Zia [1,1] (Zca Tryz.f66)) (Zoa Znw [.cells a,.rows b,.rows d]) R k=Zmt n [.cells a,.rows b,.rows d] R k:=by kernel_rfl
theorem ZwL (n:Nat)(d1 d2 d3:Rs) :
  funK T G0 (Zja ZGo) (ZEw n) .d false [none] (Zfa Tryz.f66) [.agg [.fs d1,.fs d2,.fs d3]]=ZBs n  d1 d2 d3 (fun a0 a1 a2=>some (ZAJ (a0,a1,a2))):=by kernel_rfl
theorem ZZK {ps:Cs} {y:Rs × Rs × Rs} (h:Zms ps=some y):∃ (d1:Rs) (d2:Rs) (d3:Rs),ps=[.agg [.fs d1,.fs d2,.fs d3]]:=by
 unfold Zms at h
 split at h
 ·exact ⟨_,_,_,rfl⟩
 ·cases h
theorem Z7y:Zpa (Zca Tryz.f66)=[Zia [1,1,0,1,0,0] (Zca Tryz.f66),Zia [1,1,0,1,0,0,1,1,0,0,1,1,1,0,0,0] (Zca Tryz.f66)]:=by kernel_rfl
theorem ZGI:(ZAa (Zca Tryz.f66)).filter Zvy=[Zia [1,1] (Zca Tryz.f66)]:=by kernel_rfl
theorem ZRJ (hΓ:Zga Tryz.prog G0 ZGo) (hok:∀ (d1 d2 d3:Rs)(y:Rs × Rs × Rs),Zrr d1 d2 d3=some y→∃ n,∀ (R:Type)(k:Rs→Rs→Rs→Option R),ZBs n  d1 d2 d3 k=k y.1 y.2.1 y.2.2):Zka Tryz.prog G0 66 Z2B:=by
 refine ZHa mixed tOk (Zna hΓ) Tryz.func66 rfl rfl rfl rfl (F:=Zfa Tryz.f66) (ZBa Zkh) (pat:=ZsE) (L:=ZJJ) (ZFa Zkh) (on:=Zvy) (patj:=ZOB) (J:=ZKJ) (fun c hc ls R k=>?_) (fun c hc p hp m ls R k r h=>?_) (fun c hc p hp m ls R k r h=>?_) (fun ps x h=>?_)
 ·rw [show (Zfa Tryz.f66).code=Zca Tryz.f66 from rfl,Z7y] at hc
  simp only [List.mem_cons,List.not_mem_nil,or_false] at hc
  rcases hc with rfl | rfl
  ·show Z9l 0 ls R k=none
   unfold Z9l
   split
   ·rfl
   ·rfl
  ·show Z5l 0 ls R k=none
   unfold Z5l
   split
   ·rfl
   ·rfl
 ·rw [show (Zfa Tryz.f66).code=Zca Tryz.f66 from rfl,Z7y] at hc
  simp only [List.mem_cons,List.not_mem_nil,or_false] at hc
  rcases hc with rfl | rfl
  ·obtain rfl:ZaA=p:=Option.some.inj hp
   change Z9l (m + 1) ls R k=some r at h
   have h':=h
   unfold Z9l at h'
   split at h'
   ·exact (ZzI m _ _ _ _ _ _ R k).trans h
   ·cases h'
  ·obtain rfl:Z5y=p:=Option.some.inj hp
   change Z5l (m + 1) ls R k=some r at h
   have h':=h
   unfold Z5l at h'
   split at h'
   ·exact (ZkJ m _ _ _ _ _ _ _ _ R k).trans h
   ·cases h'
 ·rw [show (Zfa Tryz.f66).code=Zca Tryz.f66 from rfl,ZGI] at hc
  simp only [List.mem_cons,List.not_mem_nil,or_false] at hc
  rcases hc with rfl
  ·obtain rfl:Znw=p:=Option.some.inj hp
   change Zmt m ls R k=some r at h
   have h':=h
   unfold Zmt at h'
   split at h'
   ·exact (ZAH m _ _ _ R k).trans h
   ·cases h'
 ·obtain ⟨y,hy,hx⟩:=Zba h
  cases hx
  obtain ⟨d1,d2,d3,rfl⟩:=ZZK hy
  obtain ⟨n,hn⟩:=hok d1 d2 d3 y hy
  exact ⟨n,(ZwL n d1 d2 d3).trans (hn _ _)⟩
def Z2k {R:Type}:Nat→PV→Int→Rs→Kv→Cs→(PV→Int→Rs→Kv→Cs→Option R)→Option R
 | 0,_,_,_,_,_,_=>none
 | n + 1,a,b,d,e,f,k0 =>
  cond (decide (b < (d.length:Int))) (
   if 0≤b∧b < (d.length:Int) then
    Option.bind (d[(Int.toNat b)]?) fun g =>
    Option.bind (g[0]?) fun i =>
    Option.bind (PV.asI .i64 i) fun j =>
    Option.bind (PV.asI .i64 a) fun l =>
    cond (decide (j < l)) (
     Z2k n a (IntKind.i64.wrap (b + (1:Int))) d e f k0) (
     k0 a b d e f)
   else none) (
   k0 a b d e f)
def Zag {R:Type}:Nat→Rs→Kv→Cs→(Rs→Option R)→Option R
 | 0,_,_,_,_=>none
 | n + 1,a,b,d,k0 =>
  cond (List.isEmpty b) (
   k0 a) (
   pickL b fun e7 e =>
   Option.bind (PV.asB e7.2) fun b9 =>
   cond (!b9) (
    Zag n a e [e7.1,e7.2] k0) (
    Z2k n e7.1 0 a e [e7.1,e7.2]
     (fun (f:PV)(g:Int)(i:Rs)(j:Kv)(l:Cs) =>
      if (0:Int)≤(0:Int)∧(0:Int)≤g∧g=g∧g≤(i.length:Int)∧1=1 then
       if (0:Int)≤g∧g≤(i.length:Int)∧(i.length:Int)=(i.length:Int)∧(i.length:Int)≤(i.length:Int)∧1=1 then
        if (PV.one f)=true then
         if (([[f]]:Rs).length + ((i.drop (Int.toNat g)).take (Int.toNat ((i.length:Int) - g))).length) * 8≤Zla then
          if ((Int.toNat (g - (0:Int))) + (([[f]]:Rs) ++ ((i.drop (Int.toNat g)).take (Int.toNat ((i.length:Int) - g)))).length) * 8≤Zla then
           Zag n (((i.drop 0).take (Int.toNat (g - (0:Int)))) ++ (([[f]]:Rs) ++ ((i.drop (Int.toNat g)).take (Int.toNat ((i.length:Int) - g))))) j l k0
          else none
         else none
        else none
       else none
      else none)))
def Zir {R:Type} (n:Nat)(a:PV)(k:Rs→Option R):Option R :=
 Option.bind (PV.asMp a) fun b =>
 Zag n [] b [] k
def ZKD (y:Rs):PV × Cs:=((PV.fs y),[])
def Ztw:Cs→Option (Rs)
 | [a]=>sRising a
 | _=>none
def Z3q:List (Nat × Cal):=[]
def Z6q:Ctr:=⟨[none],Rs,Ztw,ZKD,false,.d⟩
def Zwg:List (Nat × LC):=[(3,⟨[3,8],[3],[],[],[]⟩),
 (1003000,⟨[3],[],[],[],[]⟩),
 (7,⟨[3,4,6,8],[],[],[],[]⟩),
 (1007002,⟨[3,4,6,8],[],[],[],[]⟩)]
def Zxu:SP:=⟨Zea .undef [(3,(.ow 0)),(4,(.val .any)),(6,(.val (.int .i64))),(8,(.it 1))] 0 42,[(.row 1),.mit],[]⟩
def Z7t:SP:=⟨Zea .undef [(3,(.ow 0)),(8,(.it 1))] 0 42,[(.row 1),.mit],[]⟩
def Zzy:Nat→Option SP
 | 7=>some Zxu
 | 3=>some Z7t
 | _=>none
def Zjx:Nat→Option SP
 | _=>none
def Zgi (n:Nat)(ls:List Leaf)(R:Type)(k:Ex→St→Option R):Option R :=
 match ls with
 | [.pv a,.int b,.rows d,.kvs e,.cells f]=>Z2k n a b d e f (fun g i j l o=>k (.exit 2) ⟨Zea .undef [(3,(TV.ow 0)),(4,(TV.val g)),(6,(TV.val (PV.int .i64 i))),(8,(TV.it 1))] 0 42,[(Ob.row j 1),(Ob.mit l o)],[]⟩)
 | _=>none
def Z1h (n:Nat)(ls:List Leaf)(R:Type)(k:Ex→St→Option R):Option R :=
 match ls with
 | [.rows a,.kvs b,.cells d]=>Zag n a b d (fun e=>k (.exit 0) ⟨Zea .undef [(3,(TV.ow 0))] 0 42,[(Ob.row e 1)],[]⟩)
 | _=>none
def ZPD (n key:Nat) (ls:List Leaf) (R:Type) (k:Ex→St→Option R):Option R :=
 match key with
 | 7=>Zgi n ls R k
 | 3=>Z1h n ls R k
 | _=>none
def ZhD (n key:Nat) (ls:List Leaf) (R:Type) (k:Ex→St→Option R):Option R :=
 match key with
 | _=>none
def ZsB:Code→Bool:=fun _=>false
def ZSw:Nat→Loops:=patL (Zsa Zwg) Zzy ZPD (ZCa Zwg) ZsB Zjx ZhD
theorem Z7E (n:Nat)(a:Rs)(b:Kv)(d:Cs)  (R:Type) (k:Ex→St→Option R) :
  Zza T G0 (Zja Z3q) (Zsa Zwg) (ZSw n) (Zia [1,1,0,1,0,0] (Zca Tryz.f74)) (Zoa Z7t [.rows a,.kvs b,.cells d]) R k=Z1h (n + 1) [.rows a,.kvs b,.cells d] R k:=by kernel_rfl
theorem ZvF (n:Nat)(a:PV)(b:Int)(d:Rs)(e:Kv)(f:Cs)  (R:Type) (k:Ex→St→Option R) :
  Zza T G0 (Zja Z3q) (Zsa Zwg) (ZSw n) (Zia [1,1,0,1,0,0,1,1,0,1,1,1,0,0,0] (Zca Tryz.f74)) (Zoa Zxu [.pv a,.int b,.rows d,.kvs e,.cells f]) R k=Zgi (n + 1) [.pv a,.int b,.rows d,.kvs e,.cells f] R k:=by kernel_rfl
theorem ZlK (n:Nat)(a:PV) :
  funK T G0 (Zja Z3q) (ZSw n) .d false [none] (Zfa Tryz.f74) [a]=Zir n  a (fun a0=>some (ZKD a0)):=by kernel_rfl
theorem ZMI {ps:Cs} {y:Rs} (h:Ztw ps=some y):∃ (a:PV),ps=[a]:=by
 unfold Ztw at h
 split at h
 ·exact ⟨_,rfl⟩
 ·cases h
theorem Zsv:Zpa (Zca Tryz.f74)=[Zia [1,1,0,1,0,0] (Zca Tryz.f74),Zia [1,1,0,1,0,0,1,1,0,1,1,1,0,0,0] (Zca Tryz.f74)]:=by kernel_rfl
theorem ZdF (hΓ:Zga Tryz.prog G0 Z3q) (hok:∀ (a:PV)(y:Rs),sRising a=some y→∃ n,∀ (R:Type)(k:Rs→Option R),Zir n  a k=k y):Zka Tryz.prog G0 74 Z6q:=by
 refine ZHa mixed tOk (Zna hΓ) Tryz.func74 rfl rfl rfl rfl (F:=Zfa Tryz.f74) (ZBa Zwg) (pat:=Zzy) (L:=ZPD) (ZFa Zwg) (on:=ZsB) (patj:=Zjx) (J:=ZhD) (fun c hc ls R k=>?_) (fun c hc p hp m ls R k r h=>?_) (fun c hc p hp m ls R k r h=>?_) (fun ps x h=>?_)
 ·rw [show (Zfa Tryz.f74).code=Zca Tryz.f74 from rfl,Zsv] at hc
  simp only [List.mem_cons,List.not_mem_nil,or_false] at hc
  rcases hc with rfl | rfl
  ·show Z1h 0 ls R k=none
   unfold Z1h
   split
   ·rfl
   ·rfl
  ·show Zgi 0 ls R k=none
   unfold Zgi
   split
   ·rfl
   ·rfl
 ·rw [show (Zfa Tryz.f74).code=Zca Tryz.f74 from rfl,Zsv] at hc
  simp only [List.mem_cons,List.not_mem_nil,or_false] at hc
  rcases hc with rfl | rfl
  ·obtain rfl:Z7t=p:=Option.some.inj hp
   change Z1h (m + 1) ls R k=some r at h
   have h':=h
   unfold Z1h at h'
   split at h'
   ·exact (Z7E m _ _ _ R k).trans h
   ·cases h'
  ·obtain rfl:Zxu=p:=Option.some.inj hp
   change Zgi (m + 1) ls R k=some r at h
   have h':=h
   unfold Zgi at h'
   split at h'
   ·exact (ZvF m _ _ _ _ _ R k).trans h
   ·cases h'
 ·cases (List.mem_filter.1 hc).2
 ·obtain ⟨y,hy,hx⟩:=Zba h
  cases hx
  obtain ⟨a,rfl⟩:=ZMI hy
  obtain ⟨n,hn⟩:=hok a y hy
  exact ⟨n,(ZlK n a).trans (hn _ _)⟩
def Zgm {R:Type}:Nat→Rs→Int→Int→Rs→Int→Int→Kv→Kv→Kv→PV→(Rs→Int→Int→Kv→Kv→Kv→PV→Option R)→Option R
 | 0,_,_,_,_,_,_,_,_,_,_,_=>none
 | n + 1,a,b,d,e,f,g,i,j,l,o,k0 =>
  cond (decide (g < f)) (
   Option.bind (idx e g) fun q =>
   if q.length=1 then
    Option.bind (q[0]?) fun t =>
    Option.bind (PV.asI .i64 t) fun u =>
    Option.bind (mset T 3 (PV.int .i64 u) (PV.bool true) i) fun v =>
    Zgm n a b d e f (IntKind.i64.wrap (g + (1:Int))) v j l o k0
   else none) (
   k0 a b d i j l o)
def ZUk {R:Type}:Nat→Rs→Int→Int→Rs→Int→Int→Kv→Kv→Kv→(Rs→Int→Int→Kv→Kv→Kv→Option R)→Option R
 | 0,_,_,_,_,_,_,_,_,_,_=>none
 | n + 1,a,b,d,e,f,g,i,j,l,k0 =>
  cond (decide (g < f)) (
   Option.bind (idx e g) fun o =>
   if o.length=1 then
    Option.bind (o[0]?) fun q =>
    Option.bind (PV.asI .i64 q) fun t =>
    Option.bind (mset T 3 (PV.int .i64 t) (PV.bool true) j) fun u =>
    ZUk n a b d e f (IntKind.i64.wrap (g + (1:Int))) i u l k0
   else none) (
   k0 a b d i j l)
def Z1k {R:Type}:Nat→PV→Kv→Kv→Cs→(Kv→Option R)→Option R
 | 0,_,_,_,_,_=>none
 | n + 1,a,b,d,e,k0 =>
  cond (List.isEmpty d) (
   k0 b) (
   pickL d fun f g =>
   Option.bind (PV.asMp a) fun i =>
   Option.bind (mget T 3 f.1 i) fun j =>
   Option.bind (PV.asB (Option.getD j (PV.bool false))) fun l =>
   Option.bind (mset T 3 f.1 (PV.bool (!l)) b) fun o =>
   Z1k n a o g [f.1,f.2] k0)
def Z9h {R:Type}:Nat→PV→Kv→Kv→Kv→Cs→(PV→Kv→Kv→Option R)→Option R
 | 0,_,_,_,_,_,_=>none
 | n + 1,a,b,d,e,f,k0 =>
  cond (List.isEmpty e) (
   k0 a b d) (
   pickL e fun g i =>
   Option.bind (mget T 3 g.1 b) fun j =>
   Option.bind (PV.asB (Option.getD j (PV.bool false))) fun l =>
   Option.bind (mset T 3 g.1 (PV.bool (!l)) d) fun o =>
   Z9h n a b o i [g.1,g.2] k0)
def ZLn {R:Type}:Nat→Rs→Int→Int→Kv→Kv→Kv→(Kv→Kv→Kv→Option R)→Option R
 | 0,_,_,_,_,_,_,_=>none
 | n + 1,a,b,d,e,f,g,k0 =>
  cond (decide (d < b)) (
   Option.bind (idx a d) fun i =>
   if i.length=3 then
    Option.bind (Zra i 0 3) fun j =>
    if (PV.isAgg j 3)=true then
     Option.bind ((PV.cells j)[1]?) fun l =>
     Option.bind (PV.asFs l) fun o =>
     Zgm n a b d o (o.length:Int) 0 e f g j
      (fun (q:Rs)(t u:Int)(v z A:Kv)(B:PV) =>
       Option.bind ((PV.cells B)[2]?) fun C =>
       Option.bind (PV.asFs C) fun D =>
       ZUk n q t u D (D.length:Int) 0 v z A
        (fun (E:Rs)(i32 F:Int)(G H I:Kv) =>
         ZLn n E i32 (IntKind.i64.wrap (F + (1:Int))) G H I k0))
    else none
   else none) (
   k0 e f g)
def ZAt {R:Type} (n:Nat)(d1 d2 d3:Rs)(k:Rs→Option R):Option R :=
 ZLn n d1 (d1.length:Int) 0 ([]:Kv) ([]:Kv) ([]:Kv)
  (fun (a b d:Kv) =>
   Z9h n (PV.fm a) b d a []
    (fun (a7:PV)(e f:Kv) =>
     Z1k n a7 f e []
      (fun (g:Kv) =>
       Option.bind (sRising (PV.fm g)) fun i =>
       k i)))
def ZDG (y:Rs):PV × Cs:=((PV.fs y),[])
def Z2z:Cs→Option (Rs)
 | [.agg [.fs d1,.fs d2,.fs d3]]=>sRMoved d1 d2 d3
 | _=>none
def Z7g:List (Nat × Cal):=[(74,.ctr Z6q),(1000000001,ro_I)]
def Z9z:Ctr:=⟨[none],Rs,Z2z,ZDG,false,.d⟩
def ZBd:List (Nat × LC):=[(3,⟨[3,4,5,18,19,20],[],[],[],[]⟩),
 (6,⟨[3,4,5,7,18,19,20,25,26,27],[],[],[],[]⟩),
 (1003000,⟨[3,4,5],[],[],[],[]⟩),
 (1006002,⟨[3,4,5,7,18,19,20],[],[],[],[]⟩),
 (17,⟨[3,4,5,46],[],[],[],[3]⟩),
 (11,⟨[3,4,5,18,19,20,35,36,37],[],[],[],[]⟩),
 (1011004,⟨[3,4,5,18,19,20],[],[],[],[]⟩),
 (1017006,⟨[3,4,5],[],[],[],[]⟩),
 (21,⟨[3,5,58],[],[],[],[]⟩),
 (1021008,⟨[5],[],[],[],[]⟩)]
def Zsw:SP:=⟨Zea .undef [(3,(.mp 0)),(4,(.mp 1)),(5,(.mp 2)),(7,(.ref 3 0)),(18,(.val .fs)),(19,(.val (.int .i64))),(20,(.val (.int .i64))),(25,(.val .fs)),(26,(.val (.int .i64))),(27,(.val (.int .i64)))] 0 71,[.map,.map,.map,(.pbox .any 3)],[]⟩
def ZLu:SP:=⟨Zea .undef [(3,(.mp 0)),(4,(.mp 1)),(5,(.mp 2)),(18,(.val .fs)),(19,(.val (.int .i64))),(20,(.val (.int .i64))),(35,(.val .fs)),(36,(.val (.int .i64))),(37,(.val (.int .i64)))] 0 71,[.map,.map,.map],[]⟩
def Zdu:SP:=⟨Zea .undef [(3,(.val .any)),(5,(.mp 0)),(58,(.it 1))] 0 71,[.map,.mit],[]⟩
def Z2u:SP:=⟨Zea .undef [(3,(.val .any)),(4,(.mp 0)),(5,(.mp 1)),(46,(.it 2))] 0 71,[.map,.map,.mit],[]⟩
def Zqw:SP:=⟨Zea .undef [(3,(.mp 0)),(4,(.mp 1)),(5,(.mp 2)),(18,(.val .fs)),(19,(.val (.int .i64))),(20,(.val (.int .i64)))] 0 71,[.map,.map,.map],[]⟩
def ZdB:Nat→Option SP
 | 6=>some Zsw
 | 11=>some ZLu
 | 21=>some Zdu
 | 17=>some Z2u
 | 3=>some Zqw
 | _=>none
def Zbz:Nat→Option SP
 | _=>none
def ZPj (n:Nat)(ls:List Leaf)(R:Type)(k:Ex→St→Option R):Option R :=
 match ls with
 | [.rows a,.int b,.int d,.rows e,.int f,.int g,.kvs i,.kvs j,.kvs l,.pv o]=>Zgm n a b d e f g i j l o (fun q t u v z A B=>k (.exit 2) ⟨Zea .undef [(3,(TV.mp 0)),(4,(TV.mp 1)),(5,(TV.mp 2)),(7,(TV.ref 3 0)),(18,(TV.val (PV.fs q))),(19,(TV.val (PV.int .i64 t))),(20,(TV.val (PV.int .i64 u)))] 0 71,[(Ob.map v),(Ob.map z),(Ob.map A),(Ob.pbox B 3)],[]⟩)
 | _=>none
def Zmi (n:Nat)(ls:List Leaf)(R:Type)(k:Ex→St→Option R):Option R :=
 match ls with
 | [.rows a,.int b,.int d,.rows e,.int f,.int g,.kvs i,.kvs j,.kvs l]=>ZUk n a b d e f g i j l (fun o q t u v z=>k (.exit 4) ⟨Zea .undef [(3,(TV.mp 0)),(4,(TV.mp 1)),(5,(TV.mp 2)),(18,(TV.val (PV.fs o))),(19,(TV.val (PV.int .i64 q))),(20,(TV.val (PV.int .i64 t)))] 0 71,[(Ob.map u),(Ob.map v),(Ob.map z)],[]⟩)
 | _=>none
def Z3h (n:Nat)(ls:List Leaf)(R:Type)(k:Ex→St→Option R):Option R :=
 match ls with
 | [.pv a,.kvs b,.kvs d,.cells e]=>Z1k n a b d e (fun f=>k (.exit 8) ⟨Zea .undef [(5,(TV.mp 0))] 0 71,[(Ob.map f)],[]⟩)
 | _=>none
def Zji (n:Nat)(ls:List Leaf)(R:Type)(k:Ex→St→Option R):Option R :=
 match ls with
 | [.pv a,.kvs b,.kvs d,.kvs e,.cells f]=>Z9h n a b d e f (fun g i j=>k (.exit 6) ⟨Zea .undef [(3,(TV.val g)),(4,(TV.mp 0)),(5,(TV.mp 1))] 0 71,[(Ob.map i),(Ob.map j)],[]⟩)
 | _=>none
def ZCj (n:Nat)(ls:List Leaf)(R:Type)(k:Ex→St→Option R):Option R :=
 match ls with
 | [.rows a,.int b,.int d,.kvs e,.kvs f,.kvs g]=>ZLn n a b d e f g (fun i j l=>k (.exit 0) ⟨Zea .undef [(3,(TV.mp 0)),(4,(TV.mp 1)),(5,(TV.mp 2))] 0 71,[(Ob.map i),(Ob.map j),(Ob.map l)],[]⟩)
 | _=>none
def ZLG (n key:Nat) (ls:List Leaf) (R:Type) (k:Ex→St→Option R):Option R :=
 match key with
 | 6=>ZPj n ls R k
 | 11=>Zmi n ls R k
 | 21=>Z3h n ls R k
 | 17=>Zji n ls R k
 | 3=>ZCj n ls R k
 | _=>none
def ZEG (n key:Nat) (ls:List Leaf) (R:Type) (k:Ex→St→Option R):Option R :=
 match key with
 | _=>none
def ZiD:Code→Bool:=fun _=>false
def Z0l:Nat→Loops:=patL (Zsa ZBd) ZdB ZLG (ZCa ZBd) ZiD Zbz ZEG
theorem Z2H (n:Nat)(a:Rs)(b d:Int)(e f g:Kv)  (R:Type) (k:Ex→St→Option R) :
  Zza T G0 (Zja Z7g) (Zsa ZBd) (Z0l n) (Zia [1,1,0,1,0,0] (Zca Tryz.f73)) (Zoa Zqw [.rows a,.int b,.int d,.kvs e,.kvs f,.kvs g]) R k=ZCj (n + 1) [.rows a,.int b,.int d,.kvs e,.kvs f,.kvs g] R k:=by kernel_rfl
theorem ZfI (n:Nat)(a:Rs)(b d:Int)(e:Rs)(f g:Int)(i j l:Kv)(o:PV)  (R:Type) (k:Ex→St→Option R) :
  Zza T G0 (Zja Z7g) (Zsa ZBd) (Z0l n) (Zia [1,1,0,1,0,0,1,1,0,0,1,0,1,0,0] (Zca Tryz.f73)) (Zoa Zsw [.rows a,.int b,.int d,.rows e,.int f,.int g,.kvs i,.kvs j,.kvs l,.pv o]) R k=ZPj (n + 1) [.rows a,.int b,.int d,.rows e,.int f,.int g,.kvs i,.kvs j,.kvs l,.pv o] R k:=by kernel_rfl
theorem ZjG (n:Nat)(a:Rs)(b d:Int)(e:Rs)(f g:Int)(i j l:Kv)  (R:Type) (k:Ex→St→Option R) :
  Zza T G0 (Zja Z7g) (Zsa ZBd) (Z0l n) (Zia [1,1,0,1,0,0,1,1,0,0,1,1,1,0,0] (Zca Tryz.f73)) (Zoa ZLu [.rows a,.int b,.int d,.rows e,.int f,.int g,.kvs i,.kvs j,.kvs l]) R k=Zmi (n + 1) [.rows a,.int b,.int d,.rows e,.int f,.int g,.kvs i,.kvs j,.kvs l] R k:=by kernel_rfl
theorem Z8F (n:Nat)(a:PV)(b d e:Kv)(f:Cs)  (R:Type) (k:Ex→St→Option R) :
  Zza T G0 (Zja Z7g) (Zsa ZBd) (Z0l n) (Zia [1,1,1,0,1,0,0] (Zca Tryz.f73)) (Zoa Z2u [.pv a,.kvs b,.kvs d,.kvs e,.cells f]) R k=Zji (n + 1) [.pv a,.kvs b,.kvs d,.kvs e,.cells f] R k:=by kernel_rfl
theorem Z7F (n:Nat)(a:PV)(b d:Kv)(e:Cs)  (R:Type) (k:Ex→St→Option R) :
  Zza T G0 (Zja Z7g) (Zsa ZBd) (Z0l n) (Zia [1,1,1,1,0,1,0,0] (Zca Tryz.f73)) (Zoa Zdu [.pv a,.kvs b,.kvs d,.cells e]) R k=Z3h (n + 1) [.pv a,.kvs b,.kvs d,.cells e] R k:=by kernel_rfl
theorem ZfL (n:Nat)(d1 d2 d3:Rs) :
  funK T G0 (Zja Z7g) (Z0l n) .d false [none] (Zfa Tryz.f73) [.agg [.fs d1,.fs d2,.fs d3]]=ZAt n  d1 d2 d3 (fun a0=>some (ZDG a0)):=by kernel_rfl
theorem ZCK {ps:Cs} {y:Rs} (h:Z2z ps=some y):∃ (d1:Rs) (d2:Rs) (d3:Rs),ps=[.agg [.fs d1,.fs d2,.fs d3]]:=by
 unfold Z2z at h
 split at h
 ·exact ⟨_,_,_,rfl⟩
 ·cases h
theorem ZGx:Zpa (Zca Tryz.f73)=[Zia [1,1,0,1,0,0] (Zca Tryz.f73),Zia [1,1,0,1,0,0,1,1,0,0,1,0,1,0,0] (Zca Tryz.f73),Zia [1,1,0,1,0,0,1,1,0,0,1,1,1,0,0] (Zca Tryz.f73),Zia [1,1,1,0,1,0,0] (Zca Tryz.f73),Zia [1,1,1,1,0,1,0,0] (Zca Tryz.f73)]:=by kernel_rfl
theorem ZiI (hΓ:Zga Tryz.prog G0 Z7g) (hok:∀ (d1 d2 d3 y:Rs),sRMoved d1 d2 d3=some y→∃ n,∀ (R:Type)(k:Rs→Option R),ZAt n  d1 d2 d3 k=k y):Zka Tryz.prog G0 73 Z9z:=by
 refine ZHa mixed tOk (Zna hΓ) Tryz.func73 rfl rfl rfl rfl (F:=Zfa Tryz.f73) (ZBa ZBd) (pat:=ZdB) (L:=ZLG) (ZFa ZBd) (on:=ZiD) (patj:=Zbz) (J:=ZEG) (fun c hc ls R k=>?_) (fun c hc p hp m ls R k r h=>?_) (fun c hc p hp m ls R k r h=>?_) (fun ps x h=>?_)
 ·rw [show (Zfa Tryz.f73).code=Zca Tryz.f73 from rfl,ZGx] at hc
  simp only [List.mem_cons,List.not_mem_nil,or_false] at hc
  rcases hc with rfl | rfl | rfl | rfl | rfl
  ·show ZCj 0 ls R k=none
   unfold ZCj
   split
   ·rfl
   ·rfl
  ·show ZPj 0 ls R k=none
   unfold ZPj
   split
   ·rfl
   ·rfl
  ·show Zmi 0 ls R k=none
   unfold Zmi
   split
   ·rfl
   ·rfl
  ·show Zji 0 ls R k=none
   unfold Zji
   split
   ·rfl
   ·rfl
  ·show Z3h 0 ls R k=none
   unfold Z3h
   split
   ·rfl
   ·rfl
 ·rw [show (Zfa Tryz.f73).code=Zca Tryz.f73 from rfl,ZGx] at hc
  simp only [List.mem_cons,List.not_mem_nil,or_false] at hc
  rcases hc with rfl | rfl | rfl | rfl | rfl
  ·obtain rfl:Zqw=p:=Option.some.inj hp
   change ZCj (m + 1) ls R k=some r at h
   have h':=h
   unfold ZCj at h'
   split at h'
   ·exact (Z2H m _ _ _ _ _ _ R k).trans h
   ·cases h'
  ·obtain rfl:Zsw=p:=Option.some.inj hp
   change ZPj (m + 1) ls R k=some r at h
   have h':=h
   unfold ZPj at h'
   split at h'
   ·exact (ZfI m _ _ _ _ _ _ _ _ _ _ R k).trans h
   ·cases h'
  ·obtain rfl:ZLu=p:=Option.some.inj hp
   change Zmi (m + 1) ls R k=some r at h
   have h':=h
   unfold Zmi at h'
   split at h'
   ·exact (ZjG m _ _ _ _ _ _ _ _ _ R k).trans h
   ·cases h'
  ·obtain rfl:Z2u=p:=Option.some.inj hp
   change Zji (m + 1) ls R k=some r at h
   have h':=h
   unfold Zji at h'
   split at h'
   ·exact (Z8F m _ _ _ _ _ R k).trans h
   ·cases h'
  ·obtain rfl:Zdu=p:=Option.some.inj hp
   change Z3h (m + 1) ls R k=some r at h
   have h':=h
   unfold Z3h at h'
   split at h'
   ·exact (Z7F m _ _ _ _ R k).trans h
   ·cases h'
 ·cases (List.mem_filter.1 hc).2
 ·obtain ⟨y,hy,hx⟩:=Zba h
  cases hx
  obtain ⟨d1,d2,d3,rfl⟩:=ZCK hy
  obtain ⟨n,hn⟩:=hok d1 d2 d3 y hy
  exact ⟨n,(ZfL n d1 d2 d3).trans (hn _ _)⟩
end
end Go.Proofs.YtgpjfmihogaooaaGreatDoorV
namespace Go.Proofs.YtgpjfmihogaooaaGreatDoorV
open Go
set_option maxRecDepth 100000
section
theorem ins_comm (a b:Int):∀ l,ins a (ins b l)=ins b (ins a l)
 | []=>by
  simp only [ins]
  by_cases h:b < a
  ·rw [if_pos h,if_neg (by omega)]
  ·by_cases h':a < b
   ·rw [if_neg h,if_pos h']
   ·have:a=b:=by omega
    subst this
    rfl
 | x :: l=>by
  have ih:=ins_comm a b l
  by_cases hb:x < b
  ·by_cases ha:x < a
   ·simp only [ins,if_pos hb,if_pos ha,ih]
   ·simp only [ins,if_pos hb,if_neg ha]
    rw [if_pos (by omega)]
  ·by_cases ha:x < a
   ·simp only [ins,if_neg hb,if_pos ha]
    rw [if_pos (by omega)]
   ·simp only [ins,if_neg hb,if_neg ha]
    by_cases h:b < a
    ·rw [if_pos h,if_neg (by omega)]
    ·by_cases h':a < b
     ·rw [if_neg h,if_pos h']
     ·have:a=b:=by omega
      subst this
      rfl
theorem ins_take (k:Int):∀ l:List Int,ins k l=l.take (l.takeWhile fun x=>decide (x < k)).length ++ k :: l.drop (l.takeWhile fun x=>decide (x < k)).length
 | []=>rfl
 | x :: l=>by
  by_cases h:x < k
  ·simp only [ins,if_pos h,List.takeWhile_cons,decide_eq_true h,if_true,List.length_cons,List.take_succ_cons,List.drop_succ_cons,List.cons_append]
   rw [← ins_take k l]
  ·simp only [ins,if_neg h,List.takeWhile_cons,decide_eq_false h,Bool.false_eq_true,if_false,List.length_nil,List.take_zero,List.drop_zero,List.nil_append]
theorem ins_length (k:Int):∀ l:List Int,(ins k l).length=l.length + 1
 | []=>rfl
 | x :: l=>by
  unfold ins
  split
  ·simp only [List.length_cons,ins_length k l]
  ·rfl
theorem sortI_perm {l l':List Int} (h:l.Perm l'):sortI l=sortI l':=h.foldl_eq' (fun x _ y _ z=>ins_comm y x z) []
def encM (l:List (Int × Bool)):List (PV × PV):=l.map fun x=>(.int .i64 x.1,.bool x.2)
theorem decSet_inv:∀ {kvs:List (PV × PV)} {l:List (Int × Bool)},decSet kvs=some l→kvs=encM l
 | [],l,h=>by simp only [decSet,Option.some.injEq] at h; subst h; rfl
 | kv :: kvs,l,h=>by
  unfold decSet at h
  split at h
  ·rename_i heq
   cases heq
  ·rename_i n b l' heq
   cases heq
   obtain ⟨r,h1,h2⟩:=Zba h
   cases h2
   rw [decSet_inv h1]
   rfl
  ·cases h
theorem decSet_enc:∀ l:List (Int × Bool),decSet (encM l)=some l
 | []=>rfl
 | x :: l=>by
  show (decSet (encM l)).bind _=_
  rw [decSet_enc l]
  rfl
theorem picks_map {α β:Type} (f:α→β):∀ l:List α,picks (l.map f)=(picks l).map fun y=>(f y.1,y.2.map f)
 | []=>rfl
 | a :: l=>by
  simp only [List.map_cons,picks,picks_map f l,List.map_map]
  rfl
theorem picks_perm {α:Type}:∀ {l:List α} {y:α × List α},y ∈ picks l→(y.1 :: y.2).Perm l
 | [],y,h=>by simp [picks] at h
 | a :: l,y,h=>by
  simp only [picks,List.mem_cons,List.mem_map] at h
  rcases h with rfl | ⟨z,hz,rfl⟩
  ·exact List.Perm.refl _
  ·exact (List.Perm.swap a z.1 z.2).trans ((picks_perm hz).cons a)
theorem picks_encM {l:List (Int × Bool)} {x:(PV × PV) × List (PV × PV)} (h:x ∈ picks (encM l)):∃ y:(Int × Bool) × List (Int × Bool),(y.1 :: y.2).Perm l∧x=((.int .i64 y.1.1,.bool y.1.2),encM y.2):=by
 unfold encM at h
 rw [picks_map] at h
 obtain ⟨y,hy,rfl⟩:=List.mem_map.1 h
 exact ⟨y,picks_perm hy,rfl⟩
theorem encI_length (l:List Int):(encI l).length=l.length:=by simp [encI]
theorem encI_get (l:List Int) (j:Nat):(encI l)[j]? =(l[j]?).map fun n=>[PV.int .i64 n]:=by simp [encI]
theorem wrap_next {j:Nat} (h:j < 4611686018427387904):IntKind.i64.wrap ((j:Int) + 1)=((j + 1:Nat):Int):=by
 rw [wrap_i64 (by omega) (by omega)]
 omega
end
theorem rising7 {R:Type} {k0:PV→Int→List (List PV)→List (PV × PV)→List PV→Option R} {kx:Int} {kv:List (PV × PV)} {cs:List PV} {out:List Int} (hl:out.length < 4611686018427387904):∀ (n j:Nat),j≤out.length→out.length - j < n →
  Z2k n (.int .i64 kx) (j:Int) (encI out) kv cs k0=k0 (.int .i64 kx) ((j + ((out.drop j).takeWhile fun x=>decide (x < kx)).length:Nat):Int) (encI out) kv cs
 | 0,j,_,h=>by omega
 | n + 1,j,hj,h=>by
  unfold Z2k
  rw [encI_length]
  by_cases hlt:j < out.length
  ·rw [decide_eq_true (show (j:Int) < (out.length:Int) by omega),cond_true,if_pos (by omega),Int.toNat_natCast,encI_get,List.getElem?_eq_getElem hlt]
   simp only [Option.map_some,Option.bind_some,List.getElem?_cons_zero,PV.asI,if_true]
   rw [List.drop_eq_getElem_cons hlt,List.takeWhile_cons]
   by_cases hx:out[j] < kx
   ·rw [decide_eq_true hx,cond_true,wrap_next (by omega),rising7 hl n (j + 1) hlt (by omega)]
    simp only [if_true,List.length_cons]
    congr 2
    omega
   ·rw [decide_eq_false hx,cond_false]
    simp
  ·have:j=out.length:=by omega
   subst this
   rw [decide_eq_false (by omega),cond_false]
   simp
def stepS (o:List Int) (x:Int × Bool):List Int:=if x.2 then ins x.1 o else o
theorem stepS_comm (x y:Int × Bool) (o:List Int):stepS (stepS o x) y=stepS (stepS o y) x:=by
 unfold stepS
 cases x.2 <;> cases y.2 <;> simp [ins_comm]
theorem stepS_length (o:List Int) (x:Int × Bool):(stepS o x).length≤o.length + 1:=by
 unfold stepS
 split
 ·rw [ins_length]; exact Nat.le_refl _
 ·omega
theorem stepS_sort:∀ (l:List (Int × Bool)) (o:List Int),l.foldl stepS o=((l.filter (·.2)).map (·.1)).foldl (fun o k=>ins k o) o
 | [],o=>rfl
 | (a,true) :: l,o=>by
  simp only [List.foldl_cons,List.filter_cons,if_true,List.map_cons]
  rw [stepS_sort l]
  rfl
 | (a,false) :: l,o=>by
  simp only [List.foldl_cons,List.filter_cons,Bool.false_eq_true,if_false]
  rw [stepS_sort l]
  rfl
theorem rising3 {R:Type} {k0:List (List PV)→Option R}:∀ (n:Nat) (l:List (Int × Bool)) (out:List Int) (cs:List PV),out.length + 2 * l.length < n→(out.length + l.length) * 8≤140737488355328 →
  Zag n (encI out) (encM l) cs k0=k0 (encI (l.foldl stepS out))
 | 0,l,out,cs,h,_=>by omega
 | n + 1,l,out,cs,h,hm=>by
  unfold Zag
  cases l with
  | nil=>rfl
  | cons a l' =>
   rw [show (encM (a :: l')).isEmpty=false from rfl,cond_false]
   refine pickL_eq (by simp [encM]) fun x hx=>?_
   obtain ⟨y,hy,rfl⟩:=picks_encM hx
   have hlen:=hy.length_eq
   simp only [List.length_cons] at hlen h hm
   have hfold:(a :: l').foldl stepS out=y.2.foldl stepS (stepS out y.1):=by
    have:=hy.foldl_eq' (f:=stepS) (fun x _ y _ z=>stepS_comm x y z) out
    simpa using this.symm
   rw [hfold]
   obtain ⟨⟨yk,yb⟩,rest⟩:=y
   change Option.bind (some yb) _=_
   rw [Option.bind_some]
   simp only [List.length_cons] at hlen
   cases yb with
   | false =>
    rw [show (!false)=true from rfl,cond_true]
    exact rising3 n rest out _ (by omega) (by omega)
   | true =>
    rw [show (!true)=false from rfl,cond_false]
    have h7:=rising7 (kx:=yk) (out:=out) (k0:=fun (k10:PV)(j11:Int) (es12:List (List PV)) (kv13:List (PV × PV)) (cs14:List PV) =>
      if (0:Int)≤(0:Int)∧(0:Int)≤j11∧j11=j11∧j11≤(es12.length:Int)∧1=1 then
       if (0:Int)≤j11∧j11≤(es12.length:Int)∧(es12.length:Int)=(es12.length:Int)∧(es12.length:Int)≤(es12.length:Int)∧1=1 then
        if (PV.one k10)=true then
         if (([[k10]]:List (List PV)).length + ((es12.drop (Int.toNat j11)).take (Int.toNat ((es12.length:Int) - j11))).length) * 8≤Zla then
          if ((Int.toNat (j11 - (0:Int))) + (([[k10]]:List (List PV)) ++ ((es12.drop (Int.toNat j11)).take (Int.toNat ((es12.length:Int) - j11)))).length) * 8≤Zla then
           Zag n (((es12.drop 0).take (Int.toNat (j11 - (0:Int)))) ++ (([[k10]]:List (List PV)) ++ ((es12.drop (Int.toNat j11)).take (Int.toNat ((es12.length:Int) - j11))))) kv13 cs14 k0
          else none
         else none
        else none
       else none
      else none) (kv:=encM rest) (cs:=[PV.int .i64 yk,PV.bool true]) (by omega) n 0 (by omega) (by omega)
    refine h7.trans ?_
    clear h7
    simp only [List.drop_zero,Nat.zero_add]
    generalize hj:(out.takeWhile fun x=>decide (x < yk)).length=j
    have hjl:j≤out.length:=by rw [← hj]; exact (List.takeWhile_sublist _).length_le
    rw [encI_length]
    rw [if_pos ⟨Int.le_refl _,by omega,trivial,by omega,trivial⟩,if_pos ⟨by omega,by omega,trivial,Int.le_refl _,trivial⟩,if_pos (show PV.one (.int .i64 yk)=true from rfl)]
    have e1:Int.toNat ((out.length:Int) - (j:Int))=out.length - j:=by omega
    rw [e1,Int.toNat_natCast,Int.sub_zero,Int.toNat_natCast]
    have e2:((encI out).drop j).take (out.length - j)=(encI out).drop j:=List.take_of_length_le (by rw [List.length_drop,encI_length]; exact Nat.le_refl _)
    rw [e2]
    rw [if_pos (by simp only [List.length_cons,List.length_nil,List.length_drop,encI_length,Zla]; omega)]
    rw [if_pos (by simp only [List.length_cons,List.length_append,List.length_nil,List.length_drop,encI_length,Zla]; omega)]
    have e3:(encI out).take j ++ ([[PV.int .i64 yk]] ++ (encI out).drop j)=encI (stepS out (yk,true)):=by
     unfold stepS
     rw [if_pos rfl,ins_take,hj]
     simp [encI]
    rw [e3]
    have hs:=stepS_length out (yk,true)
    exact rising3 n rest (stepS out (yk,true)) _ (by omega) (by omega)
theorem Z4J:∀ (a:PV) (y:List (List PV)),sRising a=some y→∃ n,∀ (R:Type) (k:List (List PV)→Option R),Zir n a k=k y:=by
 intro p y h
 unfold sRising at h
 obtain ⟨kvs,h1,h2⟩:=Zba h
 split at h2
 ·rename_i hm
  obtain ⟨l,h3,h4⟩:=Zba h2
  cases h4
  have hk:=decSet_inv h3
  subst hk
  refine ⟨2 * l.length + 1,fun R k=>?_⟩
  unfold Zir
  rw [h1,Option.bind_some]
  have:=rising3 (k0:=k) (2 * l.length + 1) l [] [] (by simp) (by simpa [encM] using hm)
  rw [stepS_sort] at this
  exact this
 ·cases h2
def lookI (x:Int) (l:List (Int × Bool)):Option Bool:=(l.find? fun p=>x == p.1).map (·.2)
def setI (x:Int) (b:Bool):List (Int × Bool)→List (Int × Bool)
 | []=>[(x,b)]
 | p :: l=>if x == p.1 then (x,b) :: l else p :: setI x b l
theorem eqv_int (a b:Int):eqvT T 3 (.int .i64 a) (.int .i64 b)=some (a == b):=rfl
theorem mget_enc (x:Int):∀ l:List (Int × Bool),mget T 3 (.int .i64 x) (encM l)=some ((lookI x l).map .bool)
 | []=>rfl
 | (a,b) :: l=>by
  show (eqvT T 3 (.int .i64 x) (.int .i64 a)).bind _=_
  rw [eqv_int,Option.bind_some]
  cases h:x == a with
  | true=>simp [lookI,List.find?_cons,h]
  | false =>
   rw [if_neg (by simp)]
   show mget T 3 (.int .i64 x) (encM l)=_
   rw [mget_enc x l]
   simp [lookI,List.find?_cons,h]
theorem mset_enc (x:Int) (b:Bool):∀ l:List (Int × Bool),mset T 3 (.int .i64 x) (.bool b) (encM l)=some (encM (setI x b l))
 | []=>rfl
 | (a,c) :: l=>by
  show (eqvT T 3 (.int .i64 x) (.int .i64 a)).bind _=_
  rw [eqv_int,Option.bind_some]
  cases h:x == a with
  | true =>
   rw [if_pos rfl]
   simp only [setI,h,if_true]
   rfl
  | false =>
   rw [if_neg (by simp)]
   show (mset T 3 (.int .i64 x) (.bool b) (encM l)).bind _=_
   rw [mset_enc x b l,Option.bind_some]
   simp only [setI,h,Bool.false_eq_true,if_false]
   rfl
theorem look_set (x y:Int) (b:Bool):∀ l:List (Int × Bool),lookI y (setI x b l)=if y=x then some b else lookI y l
 | []=>by
  by_cases h:y=x
  ·subst h; simp [lookI,setI]
  ·simp [lookI,setI,h]
 | (a,c) :: l=>by
  by_cases hxa:x=a
  ·subst hxa
   by_cases h:y=x
   ·subst h; simp [lookI,setI]
   ·simp [lookI,setI,List.find?_cons,h]
  ·have hs:setI x b ((a,c) :: l)=(a,c) :: setI x b l:=by simp [setI,hxa]
   rw [hs]
   have ih:=look_set x y b l
   unfold lookI at ih ⊢
   by_cases h:y=a
   ·subst h
    simp [List.find?_cons]
    exact fun e=>absurd e.symm hxa
   ·have hya:(y == a)=false:=by simpa using h
    simp only [List.find?_cons,hya]
    exact ih
theorem keys_set (x:Int) (b:Bool):∀ l:List (Int × Bool),(l.map (·.1)).Nodup→((setI x b l).map (·.1)).Nodup∧(setI x b l).length≤l.length + 1∧∀ z,z ∈ (setI x b l).map (·.1)↔z=x∨z ∈ l.map (·.1)
 | [],_=>by simp [setI]
 | (a,c) :: l,h=>by
  simp only [List.map_cons,List.nodup_cons] at h
  by_cases hxa:x=a
  ·subst hxa
   simp only [setI,beq_self_eq_true,if_true,List.map_cons,List.nodup_cons,List.length_cons,List.mem_cons]
   exact ⟨h,by omega,fun z=>⟨fun q=>q.imp id .inr,fun q=>q.elim .inl id⟩⟩
  ·have hs:setI x b ((a,c) :: l)=(a,c) :: setI x b l:=by simp [setI,hxa]
   obtain ⟨h1,h2,h3⟩:=keys_set x b l h.2
   rw [hs]
   simp only [List.map_cons,List.nodup_cons,List.length_cons,List.mem_cons]
   refine ⟨⟨fun q=>?_,h1⟩,by omega,fun z=>?_⟩
   ·rcases (h3 a).1 q with q | q
    ·exact hxa q.symm
    ·exact h.1 q
   ·rw [h3 z]
    exact ⟨fun q=>q.elim (fun e=>.inr (.inl e)) (fun q=>q.elim .inl (fun q=>.inr (.inr q))),fun q=>q.elim (fun e=>.inr (.inl e)) (fun q=>q.elim .inl (fun q=>.inr (.inr q)))⟩
def ones (l:List Int):List (Int × Bool):=l.map fun n=>(n,true)
theorem look_ones (x:Int):∀ l:List Int,lookI x (ones l)=if l.contains x then some true else none
 | []=>rfl
 | a :: l=>by
  have ih:=look_ones x l
  unfold lookI ones at ih ⊢
  simp only [List.map_cons,List.find?_cons,List.contains_cons]
  cases h:x == a with
  | true=>simp
  | false=>simpa using ih
theorem set_ones (x:Int):∀ l:List Int,setI x true (ones l)=ones (addI l x)
 | []=>rfl
 | a :: l=>by
  have ih:=set_ones x l
  unfold addI at ih ⊢
  simp only [ones,List.map_cons,setI,List.contains_cons] at ih ⊢
  cases h:x == a with
  | true=>simp [eq_of_beq h]
  | false =>
   simp only [Bool.false_eq_true,if_false,Bool.false_or,ih]
   cases l.contains x <;> simp
theorem nodup_addI {l:List Int} (h:l.Nodup) (x:Int):(addI l x).Nodup:=by
 unfold addI
 split
 ·exact h
 ·rename_i hc
  rw [List.nodup_append]
  refine ⟨h,by simp,fun a ha b hb=>?_⟩
  simp only [List.mem_singleton] at hb
  subst hb
  intro e
  subst e
  simp [ha] at hc
theorem nodup_dedI (l:List Int):(dedI l).Nodup:=by
 have:∀ (l o:List Int),o.Nodup→(l.foldl addI o).Nodup:=by
  intro l
  induction l with
  | nil=>exact fun o h=>h
  | cons x l ih=>exact fun o h=>ih _ (nodup_addI h x)
 exact this l [] List.nodup_nil
theorem decRows_enc:∀ {es:List (List PV)} {l:List Int},decRows es=some l→es=encI l
 | [],l,h=>by simp only [decRows,Option.some.injEq] at h; subst h; rfl
 | e :: es,l,h=>by
  unfold decRows at h
  split at h
  ·rename_i heq; cases heq
  ·rename_i n r heq
   cases heq
   obtain ⟨m,h1,h2⟩:=Zba h
   cases h2
   rw [decRows_enc h1]
   rfl
  ·cases h
theorem idx_encI (l:List Int) (j:Nat):idx (encI l) (j:Int)=(l[j]?).map fun n=>[PV.int .i64 n]:=by
 unfold idx
 rw [if_pos (by omega),Int.toNat_natCast,encI_get]
theorem moved6 {R:Type} {es37:List (List PV)} {i38 i39:Int} {kv44 kv45:List (PV × PV)} {p46:PV} {k0:List (List PV)→Int→Int→List (PV × PV)→List (PV × PV)→List (PV × PV)→PV→Option R} {l:List Int} (hl:l.length < 4611686018427387905) :
  ∀ (n j:Nat) (a:List Int),j≤l.length→l.length - j < n →
   Zgm n es37 i38 i39 (encI l) ((encI l).length:Int) (j:Int) (encM (ones a)) kv44 kv45 p46 k0=k0 es37 i38 i39 (encM (ones ((l.drop j).foldl addI a))) kv44 kv45 p46
 | 0,j,a,_,h=>by omega
 | n + 1,j,a,hj,h=>by
  unfold Zgm
  rw [encI_length]
  by_cases hlt:j < l.length
  ·rw [decide_eq_true (show (j:Int) < (l.length:Int) by omega),cond_true,idx_encI,List.getElem?_eq_getElem hlt]
   simp only [Option.map_some,Option.bind_some,List.length_cons,List.length_nil,if_true,List.getElem?_cons_zero,PV.asI]
   rw [mset_enc,Option.bind_some,set_ones,wrap_next (by omega)]
   have:=moved6 (es37:=es37) (i38:=i38) (i39:=i39) (kv44:=kv44) (kv45:=kv45) (p46:=p46) (k0:=k0) hl n (j + 1) (addI a l[j]) hlt (by omega)
   rw [encI_length] at this
   rw [this,List.drop_eq_getElem_cons hlt]
   rfl
  ·have:j=l.length:=by omega
   subst this
   rw [decide_eq_false (by omega),cond_false]
   simp
theorem moved11 {R:Type} {es51:List (List PV)} {i52 i53:Int} {kv57 kv59:List (PV × PV)} {k0:List (List PV)→Int→Int→List (PV × PV)→List (PV × PV)→List (PV × PV)→Option R} {l:List Int} (hl:l.length < 4611686018427387905) :
  ∀ (n j:Nat) (a:List Int),j≤l.length→l.length - j < n →
   ZUk n es51 i52 i53 (encI l) ((encI l).length:Int) (j:Int) kv57 (encM (ones a)) kv59 k0=k0 es51 i52 i53 kv57 (encM (ones ((l.drop j).foldl addI a))) kv59
 | 0,j,a,_,h=>by omega
 | n + 1,j,a,hj,h=>by
  unfold ZUk
  rw [encI_length]
  by_cases hlt:j < l.length
  ·rw [decide_eq_true (show (j:Int) < (l.length:Int) by omega),cond_true,idx_encI,List.getElem?_eq_getElem hlt]
   simp only [Option.map_some,Option.bind_some,List.length_cons,List.length_nil,if_true,List.getElem?_cons_zero,PV.asI]
   rw [mset_enc,Option.bind_some,set_ones,wrap_next (by omega)]
   have:=moved11 (es51:=es51) (i52:=i52) (i53:=i53) (kv57:=kv57) (kv59:=kv59) (k0:=k0) hl n (j + 1) (addI a l[j]) hlt (by omega)
   rw [encI_length] at this
   rw [this,List.drop_eq_getElem_cons hlt]
   rfl
  ·have:j=l.length:=by omega
   subst this
   rw [decide_eq_false (by omega),cond_false]
   simp
theorem decTurns_length:∀ {d:List (List PV)} {ts:List (List Int × List Int)},decTurns d=some ts→d.length=ts.length
 | [],ts,h=>by simp only [decTurns,Option.some.injEq] at h; subst h; rfl
 | e :: d,ts,h=>by
  unfold decTurns at h
  split at h
  ·rename_i heq; cases heq
  ·rename_i c b a r heq
   cases heq
   obtain ⟨x,_,h⟩:=Zba h
   obtain ⟨y,_,h⟩:=Zba h
   obtain ⟨l,h3,h⟩:=Zba h
   cases h
   simp only [List.length_cons,decTurns_length h3]
  ·cases h
theorem decTurns_get:∀ {d:List (List PV)} {ts:List (List Int × List Int)},decTurns d=some ts→∀ {j:Nat} {t:List Int × List Int},ts[j]? = some t→∃ c,d[j]? = some [c,.fs (encI t.1),.fs (encI t.2)]
 | [],ts,h,j,t,ht=>by simp only [decTurns,Option.some.injEq] at h; subst h; simp at ht
 | e :: d,ts,h,j,t,ht=>by
  unfold decTurns at h
  split at h
  ·rename_i heq; cases heq
  ·rename_i c b a r heq
   cases heq
   obtain ⟨x,h1,h⟩:=Zba h
   obtain ⟨y,h2,h⟩:=Zba h
   obtain ⟨l,h3,h⟩:=Zba h
   cases h
   cases j with
   | zero =>
    simp only [List.getElem?_cons_zero,Option.some.injEq] at ht
    subst ht
    exact ⟨c,by simp [decRows_enc h1,decRows_enc h2]⟩
   | succ j=>simpa using decTurns_get h3 (by simpa using ht)
  ·cases h
def setsOf (ts:List (List Int × List Int)) (s:List Int × List Int):List Int × List Int:=ts.foldl (fun s t=>(t.1.foldl addI s.1,t.2.foldl addI s.2)) s
theorem moved3 {R:Type} {k0:List (PV × PV)→List (PV × PV)→List (PV × PV)→Option R} {d:List (List PV)} {ts:List (List Int × List Int)} {kv:List (PV × PV)} (hd:decTurns d=some ts) (hl:ts.length≤4611686018427387904)
  (hs:∀ t ∈ ts,t.1.length≤4611686018427387904∧t.2.length≤4611686018427387904) (N:Nat) (hN:∀ t ∈ ts,t.1.length < N∧t.2.length < N):∀ (n j:Nat) (s:List Int × List Int),j≤ts.length→N + (ts.length - j) < n →
   ZLn n d (d.length:Int) (j:Int) (encM (ones s.1)) (encM (ones s.2)) kv k0=k0 (encM (ones (setsOf (ts.drop j) s).1)) (encM (ones (setsOf (ts.drop j) s).2)) kv
 | 0,j,s,_,h=>by omega
 | n + 1,j,s,hj,h=>by
  have hlen:=decTurns_length hd
  unfold ZLn
  by_cases hlt:j < ts.length
  ·have ht:ts[j]? = some ts[j]:=List.getElem?_eq_getElem hlt
   obtain ⟨c,hc⟩:=decTurns_get hd ht
   have hm:ts[j] ∈ ts:=List.getElem_mem hlt
   obtain ⟨s1,s2⟩:=hs _ hm
   obtain ⟨n1,n2⟩:=hN _ hm
   rw [decide_eq_true (show (j:Int) < (d.length:Int) by omega),cond_true]
   unfold idx
   rw [if_pos (by omega),Int.toNat_natCast,hc,Option.bind_some,if_pos (show List.length [c,PV.fs (encI ts[j].1),PV.fs (encI ts[j].2)]=3 from rfl)]
   rw [show Zra [c,PV.fs (encI ts[j].1),PV.fs (encI ts[j].2)] 0 3=some (.agg [c,PV.fs (encI ts[j].1),PV.fs (encI ts[j].2)]) from rfl,Option.bind_some,if_pos (show PV.isAgg (.agg [c,PV.fs (encI ts[j].1),PV.fs (encI ts[j].2)]) 3=true from rfl)]
   rw [show (PV.cells (.agg [c,PV.fs (encI ts[j].1),PV.fs (encI ts[j].2)]))[1]? = some (.fs (encI ts[j].1)) from rfl,Option.bind_some]
   rw [show PV.asFs (.fs (encI ts[j].1))=some (encI ts[j].1) from rfl,Option.bind_some]
   refine (moved6 (by omega) n 0 s.1 (Nat.zero_le _) (by omega)).trans ?_
   rw [show (PV.cells (.agg [c,PV.fs (encI ts[j].1),PV.fs (encI ts[j].2)]))[2]? = some (.fs (encI ts[j].2)) from rfl,Option.bind_some]
   rw [show PV.asFs (.fs (encI ts[j].2))=some (encI ts[j].2) from rfl,Option.bind_some]
   refine (moved11 (by omega) n 0 s.2 (Nat.zero_le _) (by omega)).trans ?_
   rw [wrap_next (by omega),List.drop_zero,List.drop_zero]
   refine (moved3 (kv:=kv) (k0:=k0) hd hl hs N hN n (j + 1) (ts[j].1.foldl addI s.1,ts[j].2.foldl addI s.2) hlt (by omega)).trans ?_
   rw [List.drop_eq_getElem_cons hlt]
   rfl
  ·have:j=ts.length:=by omega
   subst this
   rw [decide_eq_false (by omega),cond_false]
   simp [setsOf]
theorem setsOf_flat:∀ (ts:List (List Int × List Int)) (s:List Int × List Int),setsOf ts s=((ts.flatMap (·.1)).foldl addI s.1,(ts.flatMap (·.2)).foldl addI s.2)
 | [],s=>rfl
 | t :: ts,s=>by
  simp only [List.flatMap_cons,List.foldl_append]
  exact setsOf_flat ts _
structure Sets (f:Int→Bool) (l:List Int) (o o':List (Int × Bool)):Prop where
 look:∀ x,lookI x o'=if x ∈ l then some (f x) else lookI x o
 keys:(o'.map (·.1)).Nodup
 len:o'.length≤o.length + l.length
theorem moved17 {R:Type} {a:PV} {B:List Int} {k0:PV→List (PV × PV)→List (PV × PV)→Option R} {Y:Option R}:∀ (n:Nat) (l:List (Int × Bool)) (o:List (Int × Bool)) (cs:List PV),l.length < n→(o.map (·.1)).Nodup →
  (∀ o',Sets (fun x => !B.contains x) (l.map (·.1)) o o'→k0 a (encM (ones B)) (encM o')=Y)→Z9h n a (encM (ones B)) (encM o) (encM l) cs k0=Y
 | 0,l,o,cs,h,_,_=>by omega
 | n + 1,l,o,cs,h,hn,hY=>by
  unfold Z9h
  cases l with
  | nil=>exact hY o ⟨fun x=>by simp,hn,by simp⟩
  | cons p l' =>
   rw [show (encM (p :: l')).isEmpty=false from rfl,cond_false]
   refine pickL_eq (by simp [encM]) fun x hx=>?_
   obtain ⟨⟨⟨yk,yb⟩,rest⟩,hy,rfl⟩:=picks_encM hx
   have hlen:=hy.length_eq
   simp only [List.length_cons] at hlen h
   rw [mget_enc,Option.bind_some,look_ones]
   have hb:PV.asB (Option.getD (Option.map PV.bool (if B.contains yk=true then some true else none)) (PV.bool false))=some (B.contains yk):=by cases B.contains yk <;> rfl
   rw [hb,Option.bind_some,mset_enc,Option.bind_some]
   obtain ⟨k1,k2,k3⟩:=keys_set yk (!B.contains yk) o hn
   refine moved17 n rest (setI yk (!B.contains yk) o) _ (by omega) k1 fun o' ho=>hY o' ⟨fun x=>?_,ho.keys,?_⟩
   ·rw [ho.look x,look_set]
    have hmem:x ∈ (p :: l').map (·.1)↔x=yk∨x ∈ rest.map (·.1):=by
     rw [← (hy.map (·.1)).mem_iff]
     simp
    by_cases h1:x ∈ rest.map (·.1)
    ·rw [if_pos h1,if_pos (hmem.2 (.inr h1))]
    ·by_cases h2:x=yk
     ·rw [if_neg h1,if_pos h2,if_pos (hmem.2 (.inl h2)),h2]
     ·rw [if_neg h1,if_neg h2,if_neg (fun q=>(hmem.1 q).elim h2 h1)]
   ·have:=ho.len
    simp only [List.length_map,List.length_cons] at this ⊢
    omega
theorem moved21 {R:Type} {A:List Int} {k0:List (PV × PV)→Option R} {Y:Option R}:∀ (n:Nat) (l:List (Int × Bool)) (o:List (Int × Bool)) (cs:List PV),l.length < n→(o.map (·.1)).Nodup →
  (∀ o',Sets (fun x => !A.contains x) (l.map (·.1)) o o'→k0 (encM o')=Y)→Z1k n (.fm (encM (ones A))) (encM o) (encM l) cs k0=Y
 | 0,l,o,cs,h,_,_=>by omega
 | n + 1,l,o,cs,h,hn,hY=>by
  unfold Z1k
  cases l with
  | nil=>exact hY o ⟨fun x=>by simp,hn,by simp⟩
  | cons p l' =>
   rw [show (encM (p :: l')).isEmpty=false from rfl,cond_false]
   refine pickL_eq (by simp [encM]) fun x hx=>?_
   obtain ⟨⟨⟨yk,yb⟩,rest⟩,hy,rfl⟩:=picks_encM hx
   have hlen:=hy.length_eq
   simp only [List.length_cons] at hlen h
   rw [show PV.asMp (.fm (encM (ones A)))=some (encM (ones A)) from rfl,Option.bind_some,mget_enc,Option.bind_some,look_ones]
   have hb:PV.asB (Option.getD (Option.map PV.bool (if A.contains yk=true then some true else none)) (PV.bool false))=some (A.contains yk):=by cases A.contains yk <;> rfl
   rw [hb,Option.bind_some,mset_enc,Option.bind_some]
   obtain ⟨k1,k2,k3⟩:=keys_set yk (!A.contains yk) o hn
   refine moved21 n rest (setI yk (!A.contains yk) o) _ (by omega) k1 fun o' ho=>hY o' ⟨fun x=>?_,ho.keys,?_⟩
   ·rw [ho.look x,look_set]
    have hmem:x ∈ (p :: l').map (·.1)↔x=yk∨x ∈ rest.map (·.1):=by
     rw [← (hy.map (·.1)).mem_iff]
     simp
    by_cases h1:x ∈ rest.map (·.1)
    ·rw [if_pos h1,if_pos (hmem.2 (.inr h1))]
    ·by_cases h2:x=yk
     ·rw [if_neg h1,if_pos h2,if_pos (hmem.2 (.inl h2)),h2]
     ·rw [if_neg h1,if_neg h2,if_neg (fun q=>(hmem.1 q).elim h2 h1)]
   ·have:=ho.len
    simp only [List.length_map,List.length_cons] at this ⊢
    omega
theorem trues_mem:∀ {l:List (Int × Bool)},(l.map (·.1)).Nodup→∀ x,x ∈ (l.filter (·.2)).map (·.1)↔lookI x l=some true
 | [],_,x=>by simp [lookI]
 | (a,b) :: l,h,x=>by
  simp only [List.map_cons,List.nodup_cons] at h
  have ih:=trues_mem h.2 x
  by_cases hx:x=a
  ·subst hx
   have hno:x ∉ (l.filter (·.2)).map (·.1):=fun q=>by
    obtain ⟨p,hp,e⟩:=List.mem_map.1 q
    exact h.1 (List.mem_map.2 ⟨p,(List.mem_filter.1 hp).1,e⟩)
   cases b with
   | true=>simp [lookI]
   | false=>simp only [List.filter_cons,Bool.false_eq_true,if_false,lookI,List.find?_cons,beq_self_eq_true,Option.map_some,Option.some.injEq,iff_false]; exact hno
  ·have hxa:(x == a)=false:=by simpa using hx
   unfold lookI at ih ⊢
   simp only [List.find?_cons,hxa]
   rw [← ih]
   cases b with
   | true=>simp [hx]
   | false=>simp
theorem trues_nodup {l:List (Int × Bool)} (h:(l.map (·.1)).Nodup):((l.filter (·.2)).map (·.1)).Nodup:=by
 induction l with
 | nil=>simp
 | cons p l ih =>
  simp only [List.map_cons,List.nodup_cons] at h
  obtain ⟨a,b⟩:=p
  cases b with
  | false=>simpa using ih h.2
  | true =>
   simp only [List.filter_cons,if_true,List.map_cons,List.nodup_cons]
   refine ⟨fun q=>?_,ih h.2⟩
   obtain ⟨p,hp,e⟩:=List.mem_map.1 q
   exact h.1 (List.mem_map.2 ⟨p,(List.mem_filter.1 hp).1,e⟩)
theorem ones_keys (l:List Int):(ones l).map (·.1)=l:=by simp [ones,Function.comp_def]
theorem Z8K:∀ (d1 d2 d3:List (List PV)) (y:List (List PV)),sRMoved d1 d2 d3=some y→∃ n,∀ (R:Type) (k:List (List PV)→Option R),ZAt n d1 d2 d3 k=k y:=by
 intro d1 d2 d3 y h
 unfold sRMoved at h
 obtain ⟨ts,hts,h⟩:=Zba h
 split at h
 case isFalse=>cases h
 rename_i hg
 obtain ⟨g1,g2,g3⟩:=hg
 cases h
 generalize hA:dedI (ts.flatMap (·.1))=A at g3 ⊢
 generalize hB:dedI (ts.flatMap (·.2))=B at g3 ⊢
 have nA:A.Nodup:=hA ▸ nodup_dedI _
 have nB:B.Nodup:=hB ▸ nodup_dedI _
 have hs:∀ t ∈ ts,t.1.length≤4611686018427387904∧t.2.length≤4611686018427387904:=fun t ht=>by
  have:=(List.all_eq_true.1 g2) t ht
  simpa using this
 have hlen:=decTurns_length hts
 obtain ⟨n,hn⟩:∃ n,n=4611686018427387905 + ts.length + A.length + B.length + 1:=⟨_,rfl⟩
 refine ⟨n,fun R k=>?_⟩
 unfold ZAt
 have h3:=fun k0=>moved3 (R:=R) (kv:=[]) (k0:=k0) hts (by omega) hs 4611686018427387905 (fun t ht=>by have:=hs t ht; omega) n 0 ([],[]) (Nat.zero_le _) (by omega)
 refine (h3 _).trans ?_
 rw [List.drop_zero,setsOf_flat]
 change (Z9h n (PV.fm (encM (ones (dedI (ts.flatMap (·.1)))))) (encM (ones (dedI (ts.flatMap (·.2))))) [] (encM (ones (dedI (ts.flatMap (·.1))))) [] _)=_
 rw [hA,hB]
 refine moved17 (B:=B) n (ones A) [] [] (by simp [ones]; omega) (by simp) fun o1 d=>?_
 refine moved21 (A:=A) n (ones B) o1 [] (by simp [ones]; omega) d.keys fun o2 f=>?_
 rw [ones_keys] at d f
 have l1:=d.len
 have l2:=f.len
 simp only [List.length_nil] at l1
 have hr:sRising (.fm (encM o2))=some (encI (sortI (A.filter (fun x => !B.contains x) ++ B.filter (fun x => !A.contains x)))):=by
  unfold sRising
  rw [show PV.asMp (.fm (encM o2))=some (encM o2) from rfl,Option.bind_some,if_pos (by simp only [encM,List.length_map]; omega),decSet_enc,Option.bind_some]
  congr 2
  refine sortI_perm ?_
  refine (List.perm_ext_iff_of_nodup (trues_nodup f.keys) ?_).2 fun x=>?_
  ·rw [List.nodup_append]
   refine ⟨nA.filter _,nB.filter _,fun a ha b hb e=>?_⟩
   subst e
   simp only [List.mem_filter,Bool.not_eq_true',List.contains_eq_mem,decide_eq_false_iff_not] at ha hb
   exact hb.2 ha.1
  ·rw [trues_mem f.keys,f.look,d.look]
   simp only [List.mem_append,List.mem_filter,Bool.not_eq_true',List.contains_eq_mem,decide_eq_false_iff_not]
   by_cases h1:x ∈ B <;> by_cases h2:x ∈ A <;> simp [h1,h2,lookI]
 rw [hr,Option.bind_some]
end Go.Proofs.YtgpjfmihogaooaaGreatDoorV
