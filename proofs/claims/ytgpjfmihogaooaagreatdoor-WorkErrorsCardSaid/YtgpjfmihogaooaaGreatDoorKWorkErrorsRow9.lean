/- Of this claim's texts what it needs, part 9. -/
import Derived.Test.YtgpjfmihogaooaaGreatDoorKWorkErrorsRow8
namespace Go.Proofs.YtgpjfmihogaooaaGreatDoorV
open Go
set_option maxRecDepth 100000
set_option linter.unusedVariables false
set_option linter.unusedSimpArgs false
noncomputable section
def ZSk {R:Type} (n:Nat)(a b:Cs)(d:Bool)(e:Rs)(f g:Int)(i:Rs)(j l:Int)(o:Bool)(q t:Int)(u v z A B C:Rs)(k0:Int→Int→Option R)(k1:Cs→Cs→Bool→Rs→Int→Int→Rs→Int→Int→Int→Int→Rs→Rs→Rs→Rs→Rs→Rs→Option R):Option R :=
 cond o (
  k0 1 0) (
  k1 a b d e f g i j l q t u v z A B C)
def ZEk {R:Type}:Nat→Rs→Rs→Int→Int→Int→Int→Rs→Rs→Rs→Rs→Rs→Rs→(Rs→Int→Int→Rs→Rs→Rs→Rs→Rs→Rs→Option R)→Option R
 | 0,_,_,_,_,_,_,_,_,_,_,_,_,_=>none
 | n + 1,a,b,d,e,f,g,i,j,l,o,q,t,k0 =>
  cond (decide (e < d)) (
   Option.bind (idx b e) fun u =>
   if u.length=1 then
    Option.bind (u[0]?) fun v =>
    Option.bind (PV.asI .i64 v) fun z =>
    if 0≤z∧z < (q.length:Int) then
     Option.bind (q[(Int.toNat z)]?) fun A =>
     Option.bind (A[0]?) fun B =>
     Option.bind (PV.asI .i64 B) fun C =>
     if 0≤z∧z < (q.length:Int) then
      Option.bind (q[(Int.toNat z)]?) fun D =>
      Option.bind (D[0]?) fun E =>
      ZEk n a b d (IntKind.i64.wrap (e + (1:Int))) f g i j l o (List.set q (Int.toNat z) (List.set D 0 (PV.int .i64 (IntKind.i64.wrap (C + (1:Int)))))) t k0
     else none
    else none
   else none) (
   k0 a f g i j l o q t)
def Zlk {R:Type}:Nat→Rs→Rs→Int→Int→Int→Int→Rs→Rs→Rs→Rs→Rs→Rs→Kv→(Rs→Int→Int→Rs→Rs→Rs→Rs→Rs→Rs→Kv→Option R)→Option R
 | 0,_,_,_,_,_,_,_,_,_,_,_,_,_,_=>none
 | n + 1,a,b,d,e,f,g,i,j,l,o,q,t,u,k0 =>
  cond (decide (e < d)) (
   Option.bind (idx b e) fun v =>
   if v.length=1 then
    Option.bind (v[0]?) fun z =>
    Option.bind (PV.asI .i64 z) fun A =>
    Option.bind (mset T 3 (PV.int .i64 A) (PV.bool true) u) fun B =>
    Zlk n a b d (IntKind.i64.wrap (e + (1:Int))) f g i j l o q t B k0
   else none) (
   k0 a f g i j l o q t u)
def Z0h {R:Type}:Nat→Cs→Cs→Bool→Rs→Int→Int→Rs→Int→Int→Int→Int→Rs→Rs→Rs→Rs→Rs→Rs→(Cs→Cs→Bool→Rs→Int→Int→Int→Int→Rs→Rs→Rs→Rs→Rs→Rs→Option R)→(Int→Int→Option R)→Option R
 | 0,_,_,_,_,_,_,_,_,_,_,_,_,_,_,_,_,_,_,_=>none
 | n + 1,a,b,d,e,f,g,i,j,l,o,q,t,u,v,z,A,B,k0,k1 =>
  cond (decide (l < j)) (
   Option.bind (idx i l) fun C =>
   if C.length=1 then
    Option.bind (C[0]?) fun D =>
    Option.bind (PV.asI .i64 D) fun E =>
    cond (decide (E < (1:Int))) (
     ZSk n a b d e f g i j l true o q t u v z A B k1
      (fun (F G:Cs)(H:Bool)(I:Rs)(J K:Int)(L:Rs)(M N O Q:Int)(U V W X Y Z:Rs) =>
       Z0h n F G H I J K L M (IntKind.i64.wrap (N + (1:Int))) O Q U V W X Y Z k0 k1)) (
     Option.bind (a[4]?) fun a1 =>
     Option.bind (PV.asFs a1) fun b1 =>
     ZSk n a b d e f g i j l (decide (E ≥ (b1.length:Int))) o q t u v z A B k1
      (fun (c1 d1:Cs)(e1:Bool)(f1:Rs)(g1 h1:Int)(i1:Rs)(j1 l1 m1 n1:Int)(o1 p1 q1 r1 s1 t1:Rs) =>
       Z0h n c1 d1 e1 f1 g1 h1 i1 j1 (IntKind.i64.wrap (l1 + (1:Int))) m1 n1 o1 p1 q1 r1 s1 t1 k0 k1))
   else none) (
   k0 a b d e f g o q t u v z A B)
def Zrk {R:Type} (n:Nat)(a b:Cs)(d:Bool)(e:Int)(f:Rs)(g i:Int)(j:Bool)(l o:Int)(q t u v z A:Rs)(B:PV)(k0:Int→Int→Option R)(k1:Cs→Cs→Bool→Int→Rs→Int→Int→Int→Int→Rs→Rs→Rs→Rs→Rs→Rs→PV→Option R):Option R :=
 cond j (
  k0 1 0) (
  k1 a b d e f g i l o q t u v z A B)
def ZWk {R:Type}:Nat→Cs→Cs→Bool→Int→Int→Rs→Int→Int→Int→Int→Rs→Rs→Rs→Rs→Rs→Rs→Kv→(Int→Int→Option R)→(Cs→Cs→Bool→Int→Int→Int→Int→Rs→Rs→Rs→Rs→Rs→Rs→Kv→Option R)→Option R
 | 0,_,_,_,_,_,_,_,_,_,_,_,_,_,_,_,_,_,_,_=>none
 | n + 1,a,b,d,e,f,g,i,j,l,o,q,t,u,v,z,A,B,k0,k1 =>
  cond (decide (j < i)) (
   Option.bind (idx g j) fun C =>
   if C.length=1 then
    Option.bind (C[0]?) fun D =>
    Option.bind (PV.asI .i64 D) fun E =>
    Option.bind (mget T 3 (PV.int .i64 E) B) fun F =>
    Option.bind (PV.asB (Option.getD F (PV.bool false))) fun G =>
    cond G (
     k0 1 0) (
     Option.bind (mset T 3 (PV.int .i64 E) (PV.bool true) B) fun H =>
     ZWk n a b d e f g i (IntKind.i64.wrap (j + (1:Int))) l o q t u v z A H k0 k1)
   else none) (
   k1 a b d e f l o q t u v z A B)
def Z7k {R:Type}:Nat→Rs→Int→Int→Int→Int→Rs→Rs→Rs→Rs→Rs→Rs→Rs→Rs→Rs→Kv→(Int→Int→Rs→Rs→Rs→Rs→Rs→Rs→Rs→Rs→Rs→Kv→Option R)→Option R
 | 0,_,_,_,_,_,_,_,_,_,_,_,_,_,_,_,_=>none
 | n + 1,a,b,d,e,f,g,i,j,l,o,q,t,u,v,z,k0 =>
  cond (decide (d < b)) (
   Option.bind (idx a d) fun A =>
   if A.length=3 then
    Option.bind (Zra A 0 3) fun B =>
    if (PV.isAgg B 3)=true then
     Option.bind ((PV.cells B)[0]?) fun C =>
     Option.bind (PV.asI .i64 C) fun D =>
     Option.bind ((PV.cells B)[2]?) fun E =>
     Option.bind (PV.asI .i64 E) fun F =>
     if 0≤D∧D < (j.length:Int) then
      Option.bind (j[(Int.toNat D)]?) fun G =>
      Option.bind (G[0]?) fun H =>
      Option.bind ((PV.cells B)[0]?) fun I =>
      Option.bind (PV.asI .i64 I) fun J =>
      if 0≤J∧J < (q.length:Int) then
       Option.bind (q[(Int.toNat J)]?) fun K =>
       Option.bind (K[0]?) fun L =>
       Option.bind (PV.asI .i64 L) fun M =>
       if 0≤J∧J < (q.length:Int) then
        Option.bind (q[(Int.toNat J)]?) fun N =>
        Option.bind (N[0]?) fun O =>
        Z7k n a b (IntKind.i64.wrap (d + (1:Int))) e f g i (List.set j (Int.toNat D) (List.set G 0 (PV.int .i64 F))) l o (List.set q (Int.toNat J) (List.set N 0 (PV.int .i64 (IntKind.i64.wrap (M + (1:Int)))))) t u v z k0
       else none
      else none
     else none
    else none
   else none) (
   k0 e f g i j l o q t u v z)
def ZMk {R:Type} (n:Nat)(a b:Cs)(d:Bool)(e:Int)(f:Rs)(g i j l:Int)(o q t u v z:Rs)(A:PV)(k0:Cs→Cs→Bool→Rs→Int→Int→Int→Int→Rs→Rs→Rs→Rs→Rs→Rs→Option R):Option R :=
 cond d (
  Option.bind ((PV.cells A)[1]?) fun B =>
  Option.bind (PV.asI .i64 B) fun C =>
  k0 a b (e == C) f g i j l o q t u v z) (
  k0 a b false f g i j l o q t u v z)
def ZLa {R:Type}:Nat→Rs→Int→Int→Int→Int→Rs→Rs→Rs→Rs→Rs→Rs→Rs→Rs→Rs→Kv→(Int→Int→Rs→Rs→Rs→Rs→Rs→Rs→Rs→Rs→Rs→Kv→Option R)→Option R
 | 0,_,_,_,_,_,_,_,_,_,_,_,_,_,_,_,_=>none
 | n + 1,a,b,d,e,f,g,i,j,l,o,q,t,u,v,z,k0 =>
  cond (decide (d < b)) (
   Option.bind (idx a d) fun A =>
   if A.length=3 then
    Option.bind (Zra A 0 3) fun B =>
    if (PV.isAgg B 3)=true then
     meet (
      meet (
       Option.bind ((PV.cells B)[0]?) fun C =>
       Option.bind (PV.asI .i64 C) fun D =>
       meet (
        Option.bind ((PV.cells B)[0]?) fun E =>
        Option.bind (PV.asI .i64 E) fun F =>
        Option.bind ((PV.cells B)[2]?) fun G =>
        Option.bind (PV.asI .i64 G) fun H =>
        if 0≤D∧D < (i.length:Int) then
         Option.bind (i[(Int.toNat D)]?) fun I =>
         Option.bind (I[0]?) fun J =>
         Option.bind (mset T 3 (PV.int .i64 F) (PV.bool true) z) fun K =>
         ZLa n a b (IntKind.i64.wrap (d + (1:Int))) e f g (List.set i (Int.toNat D) (List.set I 0 (PV.int .i64 H))) j l o q t u v K k0
        else none) (
        Option.bind ((PV.cells B)[2]?) fun L =>
        Option.bind (PV.asI .i64 L) fun M =>
        if 0≤D∧D < (i.length:Int) then
         meet (
          Option.bind ((PV.cells B)[0]?) fun N =>
          Option.bind (PV.asI .i64 N) fun O =>
          Option.bind (i[(Int.toNat D)]?) fun Q =>
          Option.bind (Q[0]?) fun U =>
          Option.bind (mset T 3 (PV.int .i64 O) (PV.bool true) z) fun V =>
          ZLa n a b (IntKind.i64.wrap (d + (1:Int))) e f g (List.set i (Int.toNat D) (List.set Q 0 (PV.int .i64 M))) j l o q t u v V k0) (
          Option.bind (i[(Int.toNat D)]?) fun W =>
          Option.bind (W[0]?) fun X =>
          Option.bind ((PV.cells B)[0]?) fun Y =>
          Option.bind (PV.asI .i64 Y) fun Z =>
          Option.bind (mset T 3 (PV.int .i64 Z) (PV.bool true) z) fun a1 =>
          ZLa n a b (IntKind.i64.wrap (d + (1:Int))) e f g (List.set i (Int.toNat D) (List.set W 0 (PV.int .i64 M))) j l o q t u v a1 k0)
        else none)) (
       meet (
        Option.bind ((PV.cells B)[0]?) fun b1 =>
        Option.bind (PV.asI .i64 b1) fun c1 =>
        meet (
         Option.bind ((PV.cells B)[0]?) fun d1 =>
         Option.bind (PV.asI .i64 d1) fun e1 =>
         Option.bind ((PV.cells B)[2]?) fun f1 =>
         Option.bind (PV.asI .i64 f1) fun g1 =>
         if 0≤e1∧e1 < (i.length:Int) then
          Option.bind (i[(Int.toNat e1)]?) fun h1 =>
          Option.bind (h1[0]?) fun i1 =>
          Option.bind (mset T 3 (PV.int .i64 c1) (PV.bool true) z) fun j1 =>
          ZLa n a b (IntKind.i64.wrap (d + (1:Int))) e f g (List.set i (Int.toNat e1) (List.set h1 0 (PV.int .i64 g1))) j l o q t u v j1 k0
         else none) (
         Option.bind ((PV.cells B)[2]?) fun k1 =>
         Option.bind (PV.asI .i64 k1) fun l1 =>
         Option.bind ((PV.cells B)[0]?) fun m1 =>
         Option.bind (PV.asI .i64 m1) fun n1 =>
         if 0≤n1∧n1 < (i.length:Int) then
          Option.bind (i[(Int.toNat n1)]?) fun o1 =>
          Option.bind (o1[0]?) fun p1 =>
          Option.bind (mset T 3 (PV.int .i64 c1) (PV.bool true) z) fun q1 =>
          ZLa n a b (IntKind.i64.wrap (d + (1:Int))) e f g (List.set i (Int.toNat n1) (List.set o1 0 (PV.int .i64 l1))) j l o q t u v q1 k0
         else none)) (
        Option.bind ((PV.cells B)[2]?) fun r1 =>
        Option.bind (PV.asI .i64 r1) fun s1 =>
        meet (
         Option.bind ((PV.cells B)[0]?) fun t1 =>
         Option.bind (PV.asI .i64 t1) fun u1 =>
         if 0≤u1∧u1 < (i.length:Int) then
          meet (
           Option.bind ((PV.cells B)[0]?) fun v1 =>
           Option.bind (PV.asI .i64 v1) fun w1 =>
           Option.bind (i[(Int.toNat u1)]?) fun x1 =>
           Option.bind (x1[0]?) fun y1 =>
           Option.bind (mset T 3 (PV.int .i64 w1) (PV.bool true) z) fun A1 =>
           ZLa n a b (IntKind.i64.wrap (d + (1:Int))) e f g (List.set i (Int.toNat u1) (List.set x1 0 (PV.int .i64 s1))) j l o q t u v A1 k0) (
           Option.bind (i[(Int.toNat u1)]?) fun B1 =>
           Option.bind (B1[0]?) fun C1 =>
           Option.bind ((PV.cells B)[0]?) fun D1 =>
           Option.bind (PV.asI .i64 D1) fun E1 =>
           Option.bind (mset T 3 (PV.int .i64 E1) (PV.bool true) z) fun F1 =>
           ZLa n a b (IntKind.i64.wrap (d + (1:Int))) e f g (List.set i (Int.toNat u1) (List.set B1 0 (PV.int .i64 s1))) j l o q t u v F1 k0)
         else none) (
         Option.bind ((PV.cells B)[0]?) fun G1 =>
         Option.bind (PV.asI .i64 G1) fun H1 =>
         Option.bind ((PV.cells B)[0]?) fun I1 =>
         Option.bind (PV.asI .i64 I1) fun J1 =>
         if 0≤J1∧J1 < (i.length:Int) then
          Option.bind (i[(Int.toNat J1)]?) fun K1 =>
          Option.bind (K1[0]?) fun L1 =>
          Option.bind (mset T 3 (PV.int .i64 H1) (PV.bool true) z) fun M1 =>
          ZLa n a b (IntKind.i64.wrap (d + (1:Int))) e f g (List.set i (Int.toNat J1) (List.set K1 0 (PV.int .i64 s1))) j l o q t u v M1 k0
         else none)))) (
      meet (
       Option.bind ((PV.cells B)[0]?) fun N1 =>
       Option.bind (PV.asI .i64 N1) fun O1 =>
       meet (
        meet (
         Option.bind ((PV.cells B)[0]?) fun P1 =>
         Option.bind (PV.asI .i64 P1) fun Q1 =>
         Option.bind ((PV.cells B)[2]?) fun R1 =>
         Option.bind (PV.asI .i64 R1) fun S1 =>
         if 0≤O1∧O1 < (i.length:Int) then
          Option.bind (i[(Int.toNat O1)]?) fun T1 =>
          Option.bind (T1[0]?) fun U1 =>
          Option.bind (mset T 3 (PV.int .i64 Q1) (PV.bool true) z) fun V1 =>
          ZLa n a b (IntKind.i64.wrap (d + (1:Int))) e f g (List.set i (Int.toNat O1) (List.set T1 0 (PV.int .i64 S1))) j l o q t u v V1 k0
         else none) (
         Option.bind ((PV.cells B)[2]?) fun W1 =>
         Option.bind (PV.asI .i64 W1) fun X1 =>
         if 0≤O1∧O1 < (i.length:Int) then
          meet (
           Option.bind ((PV.cells B)[0]?) fun Y1 =>
           Option.bind (PV.asI .i64 Y1) fun Z1 =>
           Option.bind (i[(Int.toNat O1)]?) fun a2 =>
           Option.bind (a2[0]?) fun b2 =>
           Option.bind (mset T 3 (PV.int .i64 Z1) (PV.bool true) z) fun c2 =>
           ZLa n a b (IntKind.i64.wrap (d + (1:Int))) e f g (List.set i (Int.toNat O1) (List.set a2 0 (PV.int .i64 X1))) j l o q t u v c2 k0) (
           Option.bind (i[(Int.toNat O1)]?) fun d2 =>
           Option.bind (d2[0]?) fun e2 =>
           Option.bind ((PV.cells B)[0]?) fun f2 =>
           Option.bind (PV.asI .i64 f2) fun g2 =>
           Option.bind (mset T 3 (PV.int .i64 g2) (PV.bool true) z) fun h2 =>
           ZLa n a b (IntKind.i64.wrap (d + (1:Int))) e f g (List.set i (Int.toNat O1) (List.set d2 0 (PV.int .i64 X1))) j l o q t u v h2 k0)
         else none)) (
        meet (
         Option.bind ((PV.cells B)[0]?) fun i2 =>
         Option.bind (PV.asI .i64 i2) fun j2 =>
         (fun (z1:Option R) =>
          meet (
           z1) (
           z1)) (
          Option.bind ((PV.cells B)[2]?) fun k2 =>
          Option.bind (PV.asI .i64 k2) fun l2 =>
          if 0≤O1∧O1 < (i.length:Int) then
           Option.bind (i[(Int.toNat O1)]?) fun m2 =>
           Option.bind (m2[0]?) fun n2 =>
           Option.bind (mset T 3 (PV.int .i64 j2) (PV.bool true) z) fun o2 =>
           ZLa n a b (IntKind.i64.wrap (d + (1:Int))) e f g (List.set i (Int.toNat O1) (List.set m2 0 (PV.int .i64 l2))) j l o q t u v o2 k0
          else none)) (
         Option.bind ((PV.cells B)[2]?) fun p2 =>
         Option.bind (PV.asI .i64 p2) fun q2 =>
         meet (
          if 0≤O1∧O1 < (i.length:Int) then
           meet (
            Option.bind ((PV.cells B)[0]?) fun r2 =>
            Option.bind (PV.asI .i64 r2) fun s2 =>
            Option.bind (i[(Int.toNat O1)]?) fun t2 =>
            Option.bind (t2[0]?) fun u2 =>
            Option.bind (mset T 3 (PV.int .i64 s2) (PV.bool true) z) fun v2 =>
            ZLa n a b (IntKind.i64.wrap (d + (1:Int))) e f g (List.set i (Int.toNat O1) (List.set t2 0 (PV.int .i64 q2))) j l o q t u v v2 k0) (
            Option.bind (i[(Int.toNat O1)]?) fun w2 =>
            Option.bind (w2[0]?) fun x2 =>
            Option.bind ((PV.cells B)[0]?) fun y2 =>
            Option.bind (PV.asI .i64 y2) fun A2 =>
            Option.bind (mset T 3 (PV.int .i64 A2) (PV.bool true) z) fun B2 =>
            ZLa n a b (IntKind.i64.wrap (d + (1:Int))) e f g (List.set i (Int.toNat O1) (List.set w2 0 (PV.int .i64 q2))) j l o q t u v B2 k0)
          else none) (
          Option.bind ((PV.cells B)[0]?) fun C2 =>
          Option.bind (PV.asI .i64 C2) fun D2 =>
          if 0≤O1∧O1 < (i.length:Int) then
           Option.bind (i[(Int.toNat O1)]?) fun E2 =>
           Option.bind (E2[0]?) fun F2 =>
           Option.bind (mset T 3 (PV.int .i64 D2) (PV.bool true) z) fun G2 =>
           ZLa n a b (IntKind.i64.wrap (d + (1:Int))) e f g (List.set i (Int.toNat O1) (List.set E2 0 (PV.int .i64 q2))) j l o q t u v G2 k0
          else none)))) (
       meet (
        Option.bind ((PV.cells B)[0]?) fun H2 =>
        Option.bind (PV.asI .i64 H2) fun I2 =>
        meet (
         meet (
          Option.bind ((PV.cells B)[0]?) fun J2 =>
          Option.bind (PV.asI .i64 J2) fun K2 =>
          Option.bind ((PV.cells B)[2]?) fun L2 =>
          Option.bind (PV.asI .i64 L2) fun M2 =>
          if 0≤K2∧K2 < (i.length:Int) then
           Option.bind (i[(Int.toNat K2)]?) fun N2 =>
           Option.bind (N2[0]?) fun O2 =>
           Option.bind (mset T 3 (PV.int .i64 I2) (PV.bool true) z) fun P2 =>
           ZLa n a b (IntKind.i64.wrap (d + (1:Int))) e f g (List.set i (Int.toNat K2) (List.set N2 0 (PV.int .i64 M2))) j l o q t u v P2 k0
          else none) (
          Option.bind ((PV.cells B)[2]?) fun Q2 =>
          Option.bind (PV.asI .i64 Q2) fun R2 =>
          Option.bind ((PV.cells B)[0]?) fun S2 =>
          Option.bind (PV.asI .i64 S2) fun T2 =>
          if 0≤T2∧T2 < (i.length:Int) then
           Option.bind (i[(Int.toNat T2)]?) fun U2 =>
           Option.bind (U2[0]?) fun V2 =>
           Option.bind (mset T 3 (PV.int .i64 I2) (PV.bool true) z) fun W2 =>
           ZLa n a b (IntKind.i64.wrap (d + (1:Int))) e f g (List.set i (Int.toNat T2) (List.set U2 0 (PV.int .i64 R2))) j l o q t u v W2 k0
          else none)) (
         meet (
          Option.bind ((PV.cells B)[0]?) fun X2 =>
          Option.bind (PV.asI .i64 X2) fun Y2 =>
          (fun (z2:Option R) =>
           meet (
            z2) (
            z2)) (
           Option.bind ((PV.cells B)[2]?) fun Z2 =>
           Option.bind (PV.asI .i64 Z2) fun a3 =>
           if 0≤Y2∧Y2 < (i.length:Int) then
            Option.bind (i[(Int.toNat Y2)]?) fun b3 =>
            Option.bind (b3[0]?) fun c3 =>
            Option.bind (mset T 3 (PV.int .i64 I2) (PV.bool true) z) fun d3 =>
            ZLa n a b (IntKind.i64.wrap (d + (1:Int))) e f g (List.set i (Int.toNat Y2) (List.set b3 0 (PV.int .i64 a3))) j l o q t u v d3 k0
           else none)) (
          Option.bind ((PV.cells B)[2]?) fun e3 =>
          Option.bind (PV.asI .i64 e3) fun f3 =>
          (fun (z3:Option R) =>
           meet (
            z3) (
            z3)) (
           Option.bind ((PV.cells B)[0]?) fun g3 =>
           Option.bind (PV.asI .i64 g3) fun h3 =>
           if 0≤h3∧h3 < (i.length:Int) then
            Option.bind (i[(Int.toNat h3)]?) fun i3 =>
            Option.bind (i3[0]?) fun j3 =>
            Option.bind (mset T 3 (PV.int .i64 I2) (PV.bool true) z) fun k3 =>
            ZLa n a b (IntKind.i64.wrap (d + (1:Int))) e f g (List.set i (Int.toNat h3) (List.set i3 0 (PV.int .i64 f3))) j l o q t u v k3 k0
           else none)))) (
        Option.bind ((PV.cells B)[2]?) fun l3 =>
        Option.bind (PV.asI .i64 l3) fun m3 =>
        meet (
         meet (
          Option.bind ((PV.cells B)[0]?) fun n3 =>
          Option.bind (PV.asI .i64 n3) fun o3 =>
          if 0≤o3∧o3 < (i.length:Int) then
           meet (
            Option.bind ((PV.cells B)[0]?) fun p3 =>
            Option.bind (PV.asI .i64 p3) fun q3 =>
            Option.bind (i[(Int.toNat o3)]?) fun r3 =>
            Option.bind (r3[0]?) fun s3 =>
            Option.bind (mset T 3 (PV.int .i64 q3) (PV.bool true) z) fun t3 =>
            ZLa n a b (IntKind.i64.wrap (d + (1:Int))) e f g (List.set i (Int.toNat o3) (List.set r3 0 (PV.int .i64 m3))) j l o q t u v t3 k0) (
            Option.bind (i[(Int.toNat o3)]?) fun u3 =>
            Option.bind (u3[0]?) fun v3 =>
            Option.bind ((PV.cells B)[0]?) fun w3 =>
            Option.bind (PV.asI .i64 w3) fun x3 =>
            Option.bind (mset T 3 (PV.int .i64 x3) (PV.bool true) z) fun y3 =>
            ZLa n a b (IntKind.i64.wrap (d + (1:Int))) e f g (List.set i (Int.toNat o3) (List.set u3 0 (PV.int .i64 m3))) j l o q t u v y3 k0)
          else none) (
          Option.bind ((PV.cells B)[0]?) fun A3 =>
          Option.bind (PV.asI .i64 A3) fun B3 =>
          Option.bind ((PV.cells B)[0]?) fun C3 =>
          Option.bind (PV.asI .i64 C3) fun D3 =>
          if 0≤D3∧D3 < (i.length:Int) then
           Option.bind (i[(Int.toNat D3)]?) fun E3 =>
           Option.bind (E3[0]?) fun F3 =>
           Option.bind (mset T 3 (PV.int .i64 B3) (PV.bool true) z) fun G3 =>
           ZLa n a b (IntKind.i64.wrap (d + (1:Int))) e f g (List.set i (Int.toNat D3) (List.set E3 0 (PV.int .i64 m3))) j l o q t u v G3 k0
          else none)) (
         meet (
          Option.bind ((PV.cells B)[0]?) fun H3 =>
          Option.bind (PV.asI .i64 H3) fun I3 =>
          meet (
           if 0≤I3∧I3 < (i.length:Int) then
            meet (
             Option.bind ((PV.cells B)[0]?) fun J3 =>
             Option.bind (PV.asI .i64 J3) fun K3 =>
             Option.bind (i[(Int.toNat I3)]?) fun L3 =>
             Option.bind (L3[0]?) fun M3 =>
             Option.bind (mset T 3 (PV.int .i64 K3) (PV.bool true) z) fun N3 =>
             ZLa n a b (IntKind.i64.wrap (d + (1:Int))) e f g (List.set i (Int.toNat I3) (List.set L3 0 (PV.int .i64 m3))) j l o q t u v N3 k0) (
             Option.bind (i[(Int.toNat I3)]?) fun O3 =>
             Option.bind (O3[0]?) fun P3 =>
             Option.bind ((PV.cells B)[0]?) fun Q3 =>
             Option.bind (PV.asI .i64 Q3) fun R3 =>
             Option.bind (mset T 3 (PV.int .i64 R3) (PV.bool true) z) fun S3 =>
             ZLa n a b (IntKind.i64.wrap (d + (1:Int))) e f g (List.set i (Int.toNat I3) (List.set O3 0 (PV.int .i64 m3))) j l o q t u v S3 k0)
           else none) (
           Option.bind ((PV.cells B)[0]?) fun T3 =>
           Option.bind (PV.asI .i64 T3) fun U3 =>
           if 0≤I3∧I3 < (i.length:Int) then
            Option.bind (i[(Int.toNat I3)]?) fun V3 =>
            Option.bind (V3[0]?) fun W3 =>
            Option.bind (mset T 3 (PV.int .i64 U3) (PV.bool true) z) fun X3 =>
            ZLa n a b (IntKind.i64.wrap (d + (1:Int))) e f g (List.set i (Int.toNat I3) (List.set V3 0 (PV.int .i64 m3))) j l o q t u v X3 k0
           else none)) (
          Option.bind ((PV.cells B)[0]?) fun Y3 =>
          Option.bind (PV.asI .i64 Y3) fun Z3 =>
          (fun (z4:Option R) =>
           meet (
            z4) (
            z4)) (
           Option.bind ((PV.cells B)[0]?) fun a4 =>
           Option.bind (PV.asI .i64 a4) fun b4 =>
           if 0≤b4∧b4 < (i.length:Int) then
            Option.bind (i[(Int.toNat b4)]?) fun c4 =>
            Option.bind (c4[0]?) fun d4 =>
            Option.bind (mset T 3 (PV.int .i64 Z3) (PV.bool true) z) fun e4 =>
            ZLa n a b (IntKind.i64.wrap (d + (1:Int))) e f g (List.set i (Int.toNat b4) (List.set c4 0 (PV.int .i64 m3))) j l o q t u v e4 k0
           else none))))))
    else none
   else none) (
   k0 e f g i j l o q t u v z)
def Z6b {R:Type} (n:Nat)(a b:Cs)(d:Bool)(e:Rs)(f g i j:Int)(l o q t u v:Rs)(z:PV)(k0:Cs→Cs→Bool→Rs→Int→Int→Int→Int→Rs→Rs→Rs→Rs→Rs→Rs→Option R)(k1:Int→Int→Option R):Option R :=
 Option.bind ((PV.cells z)[2]?) fun A =>
 Option.bind (PV.asFs A) fun B =>
 Z0h n a b d e f g B (B.length:Int) 0 i j l o q t u v k0 k1
def ZKk {R:Type}:Nat→Rs→Int→Int→Int→Int→Rs→Rs→Rs→Rs→Rs→Rs→Rs→Rs→Rs→(Int→Int→Rs→Rs→Rs→Rs→Rs→Rs→Rs→Rs→Rs→Option R)→Option R
 | 0,_,_,_,_,_,_,_,_,_,_,_,_,_,_,_=>none
 | n + 1,a,b,d,e,f,g,i,j,l,o,q,t,u,v,k0 =>
  cond (decide (d < b)) (
   Option.bind (idx a d) fun z =>
   if z.length=3 then
    Option.bind (Zra z 0 3) fun A =>
    if (PV.isAgg A 3)=true then
     Option.bind ((PV.cells A)[0]?) fun B =>
     Option.bind (PV.asI .i64 B) fun C =>
     if 0≤C∧C < (l.length:Int) then
      Option.bind (l[(Int.toNat C)]?) fun D =>
      Option.bind (D[0]?) fun E =>
      Option.bind (PV.asI .i64 E) fun F =>
      if 0≤C∧C < (l.length:Int) then
       Option.bind (l[(Int.toNat C)]?) fun G =>
       Option.bind (G[0]?) fun H =>
       ZKk n a b (IntKind.i64.wrap (d + (1:Int))) e f g i j (List.set l (Int.toNat C) (List.set G 0 (PV.int .i64 (IntKind.i64.wrap (F + (1:Int)))))) o q t u v k0
      else none
     else none
    else none
   else none) (
   k0 e f g i j l o q t u v)
def Z5k {R:Type} (n:Nat)(a b:Cs)(d:Bool)(e:Rs)(f g:Int)(i:Bool)(j l:Int)(o q t u v z:Rs)(A:PV)(k0:Int→Int→Option R)(k1:Cs→Cs→Bool→Rs→Int→Int→Int→Int→Rs→Rs→Rs→Rs→Rs→Rs→PV→Option R):Option R :=
 cond i (
  k0 1 0) (
  k1 a b d e f g j l o q t u v z A)
def Zli {R:Type} (n:Nat)(a b:Cs)(d:Bool)(e:Rs)(f g i j:Int)(l o q t u v:Rs)(z:PV)(k0:Cs→Cs→Bool→Rs→Int→Int→Int→Int→Rs→Rs→Rs→Rs→Rs→Rs→Option R)(k1:Int→Int→Option R):Option R :=
 meet (
  meet (
   Option.bind ((PV.cells z)[0]?) fun A =>
   Option.bind (PV.asI .i64 A) fun B =>
   Option.bind ((PV.cells z)[2]?) fun C =>
   Option.bind (PV.asFs C) fun D =>
   if ZJa 1 D=true then
    if (D.length) * 8≤Zla then
     if 0≤B∧B < (l.length:Int) then
      Option.bind (l[(Int.toNat B)]?) fun E =>
      Option.bind (E[0]?) fun F =>
      Z6b n a b d e f g i j (List.set l (Int.toNat B) (List.set E 0 (PV.fs D))) o q t u v z k0 k1
     else none
    else none
   else none) (
   Option.bind ((PV.cells z)[2]?) fun G =>
   Option.bind (PV.asFs G) fun H =>
   meet (
    Option.bind ((PV.cells z)[0]?) fun I =>
    Option.bind (PV.asI .i64 I) fun J =>
    if ZJa 1 H=true then
     if (H.length) * 8≤Zla then
      if 0≤J∧J < (l.length:Int) then
       Option.bind (l[(Int.toNat J)]?) fun K =>
       Option.bind (K[0]?) fun L =>
       Z6b n a b d e f g i j (List.set l (Int.toNat J) (List.set K 0 (PV.fs H))) o q t u v z k0 k1
      else none
     else none
    else none) (
    if ZJa 1 H=true then
     if (H.length) * 8≤Zla then
      Option.bind ((PV.cells z)[0]?) fun M =>
      Option.bind (PV.asI .i64 M) fun N =>
      if 0≤N∧N < (l.length:Int) then
       Option.bind (l[(Int.toNat N)]?) fun O =>
       Option.bind (O[0]?) fun Q =>
       Z6b n a b d e f g i j (List.set l (Int.toNat N) (List.set O 0 (PV.fs H))) o q t u v z k0 k1
      else none
     else none
    else none))) (
  meet (
   Option.bind ((PV.cells z)[0]?) fun U =>
   Option.bind (PV.asI .i64 U) fun V =>
   meet (
    Option.bind ((PV.cells z)[2]?) fun W =>
    Option.bind (PV.asFs W) fun X =>
    if ZJa 1 X=true then
     if (X.length) * 8≤Zla then
      if 0≤V∧V < (l.length:Int) then
       Option.bind (l[(Int.toNat V)]?) fun Y =>
       Option.bind (Y[0]?) fun Z =>
       Z6b n a b d e f g i j (List.set l (Int.toNat V) (List.set Y 0 (PV.fs X))) o q t u v z k0 k1
      else none
     else none
    else none) (
    Option.bind ((PV.cells z)[2]?) fun a1 =>
    Option.bind (PV.asFs a1) fun b1 =>
    (fun (z5:Option R) =>
     meet (
      z5) (
      z5)) (
     if ZJa 1 b1=true then
      if (b1.length) * 8≤Zla then
       if 0≤V∧V < (l.length:Int) then
        Option.bind (l[(Int.toNat V)]?) fun c1 =>
        Option.bind (c1[0]?) fun d1 =>
        Z6b n a b d e f g i j (List.set l (Int.toNat V) (List.set c1 0 (PV.fs b1))) o q t u v z k0 k1
       else none
      else none
     else none))) (
   Option.bind ((PV.cells z)[2]?) fun e1 =>
   Option.bind (PV.asFs e1) fun f1 =>
   meet (
    meet (
     Option.bind ((PV.cells z)[0]?) fun g1 =>
     Option.bind (PV.asI .i64 g1) fun h1 =>
     if ZJa 1 f1=true then
      if (f1.length) * 8≤Zla then
       if 0≤h1∧h1 < (l.length:Int) then
        Option.bind (l[(Int.toNat h1)]?) fun i1 =>
        Option.bind (i1[0]?) fun j1 =>
        Z6b n a b d e f g i j (List.set l (Int.toNat h1) (List.set i1 0 (PV.fs f1))) o q t u v z k0 k1
       else none
      else none
     else none) (
     if ZJa 1 f1=true then
      if (f1.length) * 8≤Zla then
       Option.bind ((PV.cells z)[0]?) fun l1 =>
       Option.bind (PV.asI .i64 l1) fun m1 =>
       if 0≤m1∧m1 < (l.length:Int) then
        Option.bind (l[(Int.toNat m1)]?) fun n1 =>
        Option.bind (n1[0]?) fun o1 =>
        Z6b n a b d e f g i j (List.set l (Int.toNat m1) (List.set n1 0 (PV.fs f1))) o q t u v z k0 k1
       else none
      else none
     else none)) (
    meet (
     Option.bind ((PV.cells z)[0]?) fun p1 =>
     Option.bind (PV.asI .i64 p1) fun q1 =>
     (fun (z6:Option R) =>
      meet (
       z6) (
       z6)) (
      if ZJa 1 f1=true then
       if (f1.length) * 8≤Zla then
        if 0≤q1∧q1 < (l.length:Int) then
         Option.bind (l[(Int.toNat q1)]?) fun r1 =>
         Option.bind (r1[0]?) fun s1 =>
         Z6b n a b d e f g i j (List.set l (Int.toNat q1) (List.set r1 0 (PV.fs f1))) o q t u v z k0 k1
        else none
       else none
      else none)) (
     if ZJa 1 f1=true then
      if (f1.length) * 8≤Zla then
       (fun (z7:Option R) =>
        meet (
         z7) (
         z7)) (
        Option.bind ((PV.cells z)[0]?) fun t1 =>
        Option.bind (PV.asI .i64 t1) fun u1 =>
        if 0≤u1∧u1 < (l.length:Int) then
         Option.bind (l[(Int.toNat u1)]?) fun v1 =>
         Option.bind (v1[0]?) fun w1 =>
         Z6b n a b d e f g i j (List.set l (Int.toNat u1) (List.set v1 0 (PV.fs f1))) o q t u v z k0 k1
        else none)
      else none
     else none))))
def Znk {R:Type} (n:Nat)(a b:Cs)(d:Bool)(e:Rs)(f g i j:Int)(l o q t u v:Rs)(z:PV)(k0:Cs→Cs→Bool→Rs→Int→Int→Int→Int→Rs→Rs→Rs→Rs→Rs→Rs→Option R)(k1:Int→Int→Option R):Option R :=
 cond d (
  Option.bind (a[0]?) fun A =>
  Option.bind (PV.asFs A) fun B =>
  meet (
   Option.bind ((PV.cells z)[0]?) fun C =>
   Option.bind (PV.asI .i64 C) fun D =>
   Option.bind (idx B D) fun E =>
   if E.length=1 then
    Option.bind (E[0]?) fun F =>
    Option.bind (PV.asFs F) fun G =>
    Option.bind ((PV.cells z)[1]?) fun H =>
    Option.bind (PV.asFs H) fun I =>
    Option.bind (Zve G I) fun J =>
    Zli n a b J e f g i j l o q t u v z k0 k1
   else none) (
   Option.bind ((PV.cells z)[1]?) fun K =>
   Option.bind (PV.asFs K) fun L =>
   Option.bind ((PV.cells z)[0]?) fun M =>
   Option.bind (PV.asI .i64 M) fun N =>
   Option.bind (idx B N) fun O =>
   if O.length=1 then
    Option.bind (O[0]?) fun Q =>
    Option.bind (PV.asFs Q) fun U =>
    Option.bind (Zve U L) fun V =>
    Zli n a b V e f g i j l o q t u v z k0 k1
   else none)) (
  (fun (z8:Option R) =>
   meet (
    meet (
     meet (
      z8) (
      z8)) (
     z8)) (
    meet (
     meet (
      meet (
       z8) (
       z8)) (
      z8)) (
     meet (
      z8) (
      z8)))) (
   Zli n a b false e f g i j l o q t u v z k0 k1))
def Zhi {R:Type}:Nat→Cs→Cs→Bool→Rs→Int→Int→Int→Int→Rs→Rs→Rs→Rs→Rs→Rs→(Int→Int→Option R)→(Cs→Bool→Int→Int→Rs→Rs→Rs→Rs→Rs→Rs→Option R)→Option R
 | 0,_,_,_,_,_,_,_,_,_,_,_,_,_,_,_,_=>none
 | n + 1,a,b,d,e,f,g,i,j,l,o,q,t,u,v,k0,k1 =>
  cond (decide (g < f)) (
   Option.bind (idx e g) fun z =>
   if z.length=3 then
    Option.bind (Zra z 0 3) fun A =>
    if (PV.isAgg A 3)=true then
     Option.bind (a[2]?) fun B =>
     Option.bind (PV.asFs B) fun C =>
     Option.bind ((PV.cells A)[0]?) fun D =>
     Option.bind (PV.asI .i64 D) fun E =>
     Option.bind (ZZm C E) fun F =>
     cond (!F.2) (
      k0 1 0) (
      cond d (
       Option.bind ((PV.cells A)[1]?) fun G =>
       Option.bind (PV.asI .i64 G) fun H =>
       Zhi n a b (F.1 == H) e f (IntKind.i64.wrap (g + (1:Int))) i j l o q t u v k0 k1) (
       Zhi n a b false e f (IntKind.i64.wrap (g + (1:Int))) i j l o q t u v k0 k1))
    else none
   else none) (
   k1 b d i j l o q t u v)
def Zai {R:Type}:Nat→Cs→Cs→Bool→Rs→Int→Int→Int→Int→Rs→Rs→Rs→Rs→Rs→Rs→(Cs→Cs→Bool→Int→Int→Rs→Rs→Rs→Rs→Rs→Rs→Option R)→(Int→Int→Option R)→Option R
 | 0,_,_,_,_,_,_,_,_,_,_,_,_,_,_,_,_=>none
 | n + 1,a,b,d,e,f,g,i,j,l,o,q,t,u,v,k0,k1 =>
  cond (decide (g < f)) (
   Option.bind (idx e g) fun z =>
   if z.length=3 then
    Option.bind (Zra z 0 3) fun A =>
    if (PV.isAgg A 3)=true then
     Option.bind (a[1]?) fun B =>
     Option.bind (PV.asFs B) fun C =>
     Option.bind ((PV.cells A)[0]?) fun D =>
     Option.bind (PV.asI .i64 D) fun E =>
     Option.bind (ZZm C E) fun F =>
     cond (!F.2) (
      Zrk n a b d F.1 e f g true i j l o q t u v A k1
       (fun (G H:Cs)(I:Bool)(J:Int)(K:Rs)(L M N O:Int)(Q U V W X Y:Rs)(Z:PV) =>
        ZMk n G H I J K L M N O Q U V W X Y Z
         (fun (a1 b1:Cs)(c1:Bool)(d1:Rs)(e1 f1 g1 h1:Int)(i1 j1 l1 m1 n1 o1:Rs) =>
          Zai n a1 b1 c1 d1 e1 (IntKind.i64.wrap (f1 + (1:Int))) g1 h1 i1 j1 l1 m1 n1 o1 k0 k1))) (
      Option.bind ((PV.cells A)[0]?) fun p1 =>
      Option.bind (PV.asI .i64 p1) fun q1 =>
      Zrk n a b d F.1 e f g (q1 ==(0:Int)) i j l o q t u v A k1
       (fun (r1 s1:Cs)(t1:Bool)(u1:Int)(v1:Rs)(w1 x1 y1 z1:Int)(A1 B1 C1 D1 E1 F1:Rs)(G1:PV) =>
        ZMk n r1 s1 t1 u1 v1 w1 x1 y1 z1 A1 B1 C1 D1 E1 F1 G1
         (fun (H1 I1:Cs)(J1:Bool)(K1:Rs)(L1 M1 N1 O1:Int)(P1 Q1 R1 S1 T1 U1:Rs) =>
          Zai n H1 I1 J1 K1 L1 (IntKind.i64.wrap (M1 + (1:Int))) N1 O1 P1 Q1 R1 S1 T1 U1 k0 k1)))
    else none
   else none) (
   k0 a b d i j l o q t u v)
def Zmk {R:Type}:Nat→Cs→Cs→Bool→Int→Int→Int→Int→Rs→Rs→Rs→Rs→Rs→Rs→Kv→(Cs→Cs→Bool→Int→Int→Rs→Rs→Rs→Rs→Rs→Rs→Option R)→(Int→Int→Option R)→Option R
 | 0,_,_,_,_,_,_,_,_,_,_,_,_,_,_,_,_=>none
 | n + 1,a,b,d,e,f,g,i,j,l,o,q,t,u,v,k0,k1 =>
  cond (decide (f < e)) (
   if 0≤f∧f < (j.length:Int) then
    Option.bind (j[(Int.toNat f)]?) fun z =>
    Option.bind (z[0]?) fun A =>
    Option.bind (PV.asFs A) fun B =>
    ZWk n a b d e f B (B.length:Int) 0 g i j l o q t u v k1
     (fun (C D:Cs)(E:Bool)(F G H I:Int)(J K L M N O:Rs)(Q:Kv) =>
      Zmk n C D E F (IntKind.i64.wrap (G + (1:Int))) H I J K L M N O Q k0 k1)
   else none) (
   k0 a b d g i j l o q t u)
def ZAj {R:Type}:Nat→Cs→Cs→Bool→Rs→Int→Int→Int→Int→Rs→Rs→Rs→Rs→Rs→Rs→(Cs→Cs→Bool→Int→Int→Rs→Rs→Rs→Rs→Rs→Rs→Option R)→(Int→Int→Option R)→Option R
 | 0,_,_,_,_,_,_,_,_,_,_,_,_,_,_,_,_=>none
 | n + 1,a,b,d,e,f,g,i,j,l,o,q,t,u,v,k0,k1 =>
  cond (decide (g < f)) (
   Option.bind (idx e g) fun z =>
   if z.length=3 then
    Option.bind (Zra z 0 3) fun A =>
    if (PV.isAgg A 3)=true then
     Option.bind ((PV.cells A)[0]?) fun B =>
     Option.bind (PV.asI .i64 B) fun C =>
     cond (decide (C < (0:Int))) (
      Z5k n a b d e f g true i j l o q t u v A k1
       (fun (D E:Cs)(F:Bool)(G:Rs)(H I J K:Int)(L M N O Q U:Rs)(V:PV) =>
        Znk n D E F G H I J K L M N O Q U V
         (fun (W X:Cs)(Y:Bool)(Z:Rs)(a1 b1 c1 d1:Int)(e1 f1 g1 h1 i1 j1:Rs) =>
          ZAj n W X Y Z a1 (IntKind.i64.wrap (b1 + (1:Int))) c1 d1 e1 f1 g1 h1 i1 j1 k0 k1) k1)) (
      Option.bind ((PV.cells A)[0]?) fun l1 =>
      Option.bind (PV.asI .i64 l1) fun m1 =>
      Option.bind (a[0]?) fun n1 =>
      Option.bind (PV.asFs n1) fun o1 =>
      Z5k n a b d e f g (decide (m1 ≥ (o1.length:Int))) i j l o q t u v A k1
       (fun (p1 q1:Cs)(r1:Bool)(s1:Rs)(t1 u1 v1 w1:Int)(x1 y1 z1 A1 B1 C1:Rs)(D1:PV) =>
        Znk n p1 q1 r1 s1 t1 u1 v1 w1 x1 y1 z1 A1 B1 C1 D1
         (fun (E1 F1:Cs)(G1:Bool)(H1:Rs)(I1 J1 K1 L1:Int)(M1 N1 O1 P1 Q1 R1:Rs) =>
          ZAj n E1 F1 G1 H1 I1 (IntKind.i64.wrap (J1 + (1:Int))) K1 L1 M1 N1 O1 P1 Q1 R1 k0 k1) k1))
    else none
   else none) (
   k0 a b d i j l o q t u v)
def ZCp {R:Type} (n:Nat)(p1 p2 p3 p4 p5 p6:Rs)(p7:Int)(d8 d9 a:Rs)(k:Rs→Rs→Rs→Rs→Rs→Rs→Int→Int→Option R):Option R :=
 Option.bind (Zvd d8 d9 a) fun b =>
 cond (!b) (
  k [] [] [] [] [] [] 0 1) (
  Option.bind (ZUe p1 p2 p3 p4 p5 p6 p7) fun d =>
  ZAj n [.fs p1,.fs p2,.fs p3,.fs p4,.fs p5,.fs p6,.int .i64 p7] [.fs d8,.fs d9,.fs a] true d8 (d8.length:Int) 0 0 d.2.2.2.2.2.2 d.1 d.2.1 d.2.2.1 d.2.2.2.1 d.2.2.2.2.1 d.2.2.2.2.2.1
   (fun (e f:Cs)(g:Bool)(i16 i:Int)(j l o q t u:Rs) =>
    Zmk n e f g (j.length:Int) 0 i16 i j l o q t u ([]:Kv)
     (fun (v z:Cs)(A:Bool)(B C:Int)(D E F G H I:Rs) =>
      Option.bind (z[1]?) fun J =>
      Option.bind (PV.asFs J) fun K =>
      Zai n v z A K (K.length:Int) 0 B C D E F G H I
       (fun (L M:Cs)(N:Bool)(O Q:Int)(U V W X Y Z:Rs) =>
        Option.bind (M[2]?) fun a1 =>
        Option.bind (PV.asFs a1) fun b1 =>
        Zhi n L M N b1 (b1.length:Int) 0 O Q U V W X Y Z
         (fun (c1 d1:Int) =>
          k [] [] [] [] [] [] d1 c1)
         (fun (e1:Cs)(f1:Bool)(g1 h1:Int)(i1 j1 k1 l1 m1 n1:Rs) =>
          cond (!f1) (
           k [] [] [] [] [] [] 0 15) (
           Option.bind (Zra e1 0 3) fun o1 =>
           Option.bind (Zms [o1]) fun q1 =>
           ZKk n q1.1 (q1.1.length:Int) 0 g1 h1 i1 j1 k1 l1 m1 n1 q1.1 q1.2.1 q1.2.2
            (fun (i64 r1:Int)(s1 t1 u1 v1 w1 x1 y1 z1 A1:Rs) =>
             ZLa n z1 (z1.length:Int) 0 i64 r1 s1 t1 u1 v1 w1 x1 y1 z1 A1 ([]:Kv)
              (fun (B1 C1:Int)(D1 E1 F1 G1 H1 I1 J1 K1 L1:Rs)(M1:Kv) =>
               Z7k n L1 (L1.length:Int) 0 B1 C1 D1 E1 F1 G1 H1 I1 J1 K1 L1 M1
                (fun (N1 O1:Int)(P1 Q1 R1 S1 T1 U1 V1 W1 X1:Rs)(Y1:Kv) =>
                 Option.bind (sRMoved V1 W1 X1) fun Z1 =>
                 Zlk n Z1 Z1 (Z1.length:Int) 0 N1 O1 P1 Q1 R1 S1 T1 U1 Y1
                  (fun (a2:Rs)(b2 c2:Int)(d2 e2 f2 g2 h2 i2:Rs)(j2:Kv) =>
                   Option.bind (sRising (PV.fm j2)) fun k2 =>
                   ZEk n a2 k2 (k2.length:Int) 0 b2 c2 d2 e2 f2 g2 h2 i2
                    (fun (l2:Rs)(m2 n2:Int)(o2 q2 r2 s2 t2 u2:Rs) =>
                     cond (decide ((l2.length:Int) > (0:Int))) (
                      k o2 q2 r2 s2 t2 u2 (IntKind.i64.wrap (n2 + (1:Int))) 0) (
                      k o2 q2 r2 s2 t2 u2 n2 0)))))))))
       (fun (v2 w2:Int) =>
        k [] [] [] [] [] [] w2 v2))
     (fun (x2 y2:Int) =>
      k [] [] [] [] [] [] y2 x2))
   (fun (z2 A2:Int) =>
    k [] [] [] [] [] [] A2 z2))
def ZRG (y:Rs × Rs × Rs × Rs × Rs × Rs × Int × Int):PV × Cs:=((PV.tuple [.agg [.fs y.1,.fs y.2.1,.fs y.2.2.1,.fs y.2.2.2.1,.fs y.2.2.2.2.1,.fs y.2.2.2.2.2.1,.int .i64 y.2.2.2.2.2.2.1],.int .i64 y.2.2.2.2.2.2.2]),[])
def Z0m (n:Nat)(a b:Cs)(d:Bool)(e:Rs)(f g:Int)(i:Rs)(j l:Int)(o:Bool)(q t:Int)(u v z A B C:Rs):Option ((Int × Int) ⊕ ((Cs) × (Cs) × Bool × Rs × Int × Int × Rs × Int × Int × Int × Int × Rs × Rs × Rs × Rs × Rs × Rs)) :=
 cond o (
  some (Sum.inl (1,0))) (
  some (Sum.inr (a,b,d,e,f,g,i,j,l,q,t,u,v,z,A,B,C)))
theorem ZBx {R:Type} (n:Nat)(a b:Cs)(d:Bool)(e:Rs)(f g:Int)(i:Rs)(j l:Int)(o:Bool)(q t:Int)(u v z A B C:Rs)(k0:Int→Int→Option R)(k1:Cs→Cs→Bool→Rs→Int→Int→Rs→Int→Int→Int→Int→Rs→Rs→Rs→Rs→Rs→Rs→Option R):Tw (Z0m n a b d e f g i j l o q t u v z A B C) (ZSk n a b d e f g i j l o q t u v z A B C k0 k1) (fun s=>match s with | (Sum.inl (a0,a1))=>k0 a0 a1 | (Sum.inr (a0,a1,a2,a3,a4,a5,a6,a7,a8,a9,D,E,F,G,H,I,J))=>k1 a0 a1 a2 a3 a4 a5 a6 a7 a8 a9 D E F G H I J):=by
 unfold Z0m ZSk
 refine Zha (fun _=>?_) (fun _=>?_)
 ·exact Zda rfl
 ·exact Zda rfl
def ZVn:Nat→Rs→Rs→Int→Int→Int→Int→Rs→Rs→Rs→Rs→Rs→Rs→Option ((Rs × Int × Int × Rs × Rs × Rs × Rs × Rs × Rs))
 | 0,_,_,_,_,_,_,_,_,_,_,_,_=>none
 | n + 1,a,b,d,e,f,g,i,j,l,o,q,t =>
  cond (decide (e < d)) (
   Option.bind (idx b e) fun u =>
   if u.length=1 then
    Option.bind (u[0]?) fun v =>
    Option.bind (PV.asI .i64 v) fun z =>
    if 0≤z∧z < (q.length:Int) then
     Option.bind (q[(Int.toNat z)]?) fun A =>
     Option.bind (A[0]?) fun B =>
     Option.bind (PV.asI .i64 B) fun C =>
     if 0≤z∧z < (q.length:Int) then
      Option.bind (q[(Int.toNat z)]?) fun D =>
      Option.bind (D[0]?) fun E =>
      ZVn n a b d (IntKind.i64.wrap (e + (1:Int))) f g i j l o (List.set q (Int.toNat z) (List.set D 0 (PV.int .i64 (IntKind.i64.wrap (C + (1:Int)))))) t
     else none
    else none
   else none) (
   some (a,f,g,i,j,l,o,q,t))
theorem Z4G {R:Type} (n:Nat)(a b:Rs)(d e f g:Int)(i j l o q t:Rs)(k0:Rs→Int→Int→Rs→Rs→Rs→Rs→Rs→Rs→Option R):Tw (ZVn n a b d e f g i j l o q t) (ZEk n a b d e f g i j l o q t k0) (fun s=>match s with | (a0,a1,a2,a3,a4,a5,a6,a7,a8)=>k0 a0 a1 a2 a3 a4 a5 a6 a7 a8):=by
 induction n generalizing a b d e f g i j l o q t with
 | zero=>exact Zwa
 | succ n ih =>
  unfold ZVn ZEk
  refine Zha (fun _=>?_) (fun _=>?_)
  ·refine Zaa fun u _=>?_
   refine Zqa fun _=>?_
   refine Zaa fun v _=>?_
   refine Zaa fun z _=>?_
   refine Zqa fun _=>?_
   refine Zaa fun A _=>?_
   refine Zaa fun B _=>?_
   refine Zaa fun C _=>?_
   refine Zqa fun _=>?_
   refine Zaa fun D _=>?_
   refine Zaa fun E _=>?_
   exact ih _ _ _ _ _ _ _ _ _ _ _ _
  ·exact Zda rfl
def Zum:Nat→Rs→Rs→Int→Int→Int→Int→Rs→Rs→Rs→Rs→Rs→Rs→Kv→Option ((Rs × Int × Int × Rs × Rs × Rs × Rs × Rs × Rs × (Kv)))
 | 0,_,_,_,_,_,_,_,_,_,_,_,_,_=>none
 | n + 1,a,b,d,e,f,g,i,j,l,o,q,t,u =>
  cond (decide (e < d)) (
   Option.bind (idx b e) fun v =>
   if v.length=1 then
    Option.bind (v[0]?) fun z =>
    Option.bind (PV.asI .i64 z) fun A =>
    Option.bind (mset T 3 (PV.int .i64 A) (PV.bool true) u) fun B =>
    Zum n a b d (IntKind.i64.wrap (e + (1:Int))) f g i j l o q t B
   else none) (
   some (a,f,g,i,j,l,o,q,t,u))
theorem Z1H {R:Type} (n:Nat)(a b:Rs)(d e f g:Int)(i j l o q t:Rs)(u:Kv)(k0:Rs→Int→Int→Rs→Rs→Rs→Rs→Rs→Rs→Kv→Option R):Tw (Zum n a b d e f g i j l o q t u) (Zlk n a b d e f g i j l o q t u k0) (fun s=>match s with | (a0,a1,a2,a3,a4,a5,a6,a7,a8,a9)=>k0 a0 a1 a2 a3 a4 a5 a6 a7 a8 a9):=by
 induction n generalizing a b d e f g i j l o q t u with
 | zero=>exact Zwa
 | succ n ih =>
  unfold Zum Zlk
  refine Zha (fun _=>?_) (fun _=>?_)
  ·refine Zaa fun v _=>?_
   refine Zqa fun _=>?_
   refine Zaa fun z _=>?_
   refine Zaa fun A _=>?_
   refine Zaa fun B _=>?_
   exact ih _ _ _ _ _ _ _ _ _ _ _ _ _
  ·exact Zda rfl
def ZZi:Nat→Cs→Cs→Bool→Rs→Int→Int→Rs→Int→Int→Int→Int→Rs→Rs→Rs→Rs→Rs→Rs→Option (((Cs) × (Cs) × Bool × Rs × Int × Int × Int × Int × Rs × Rs × Rs × Rs × Rs × Rs) ⊕ (Int × Int))
 | 0,_,_,_,_,_,_,_,_,_,_,_,_,_,_,_,_,_=>none
 | n + 1,a,b,d,e,f,g,i,j,l,o,q,t,u,v,z,A,B =>
  cond (decide (l < j)) (
   Option.bind (idx i l) fun C =>
   if C.length=1 then
    Option.bind (C[0]?) fun D =>
    Option.bind (PV.asI .i64 D) fun E =>
    cond (decide (E < (1:Int))) (
     Option.bind (Z0m n a b d e f g i j l true o q t u v z A B) fun s=>match s with
      | (Sum.inl (F,G)) =>
       some (Sum.inr (F,G))
      | (Sum.inr (H,I,J,K,L,M,N,O,Q,U,V,W,X,Y,Z,a1,b1)) =>
       ZZi n H I J K L M N O (IntKind.i64.wrap (Q + (1:Int))) U V W X Y Z a1 b1) (
     Option.bind (a[4]?) fun c1 =>
     Option.bind (PV.asFs c1) fun d1 =>
     Option.bind (Z0m n a b d e f g i j l (decide (E ≥ (d1.length:Int))) o q t u v z A B) fun s=>match s with
      | (Sum.inl (e1,f1)) =>
       some (Sum.inr (e1,f1))
      | (Sum.inr (g1,h1,i1,j1,k1,l1,m1,n1,o1,p1,q1,r1,s1,t1,u1,v1,w1)) =>
       ZZi n g1 h1 i1 j1 k1 l1 m1 n1 (IntKind.i64.wrap (o1 + (1:Int))) p1 q1 r1 s1 t1 u1 v1 w1)
   else none) (
   some (Sum.inl (a,b,d,e,f,g,o,q,t,u,v,z,A,B)))
theorem Z4H {R:Type} (n:Nat)(a b:Cs)(d:Bool)(e:Rs)(f g:Int)(i:Rs)(j l o q:Int)(t u v z A B:Rs)(k0:Cs→Cs→Bool→Rs→Int→Int→Int→Int→Rs→Rs→Rs→Rs→Rs→Rs→Option R)(k1:Int→Int→Option R):Tw (ZZi n a b d e f g i j l o q t u v z A B) (Z0h n a b d e f g i j l o q t u v z A B k0 k1) (fun s=>match s with | (Sum.inl (a0,a1,a2,a3,a4,a5,a6,a7,a8,a9,C,D,E,F))=>k0 a0 a1 a2 a3 a4 a5 a6 a7 a8 a9 C D E F | (Sum.inr (a0,a1))=>k1 a0 a1):=by
 induction n generalizing a b d e f g i j l o q t u v z A B with
 | zero=>exact Zwa
 | succ n ih =>
  unfold ZZi Z0h
  refine Zha (fun _=>?_) (fun _=>?_)
  ·refine Zaa fun G _=>?_
   refine Zqa fun _=>?_
   refine Zaa fun H _=>?_
   refine Zaa fun I _=>?_
   refine Zha (fun _=>?_) (fun _=>?_)
   ·refine Zma (ZBx _ _ _ _ _ _ _ _ _ _ _ _ _ _ _ _ _ _ _ _ _) (fun s=>?_)
    rcases s with ⟨J,K⟩ | ⟨L,M,N,O,Q,U,V,W,X,Y,Z,b1,c1,d1,e1,f1,g1⟩
    ·exact Zda rfl
    ·exact ih _ _ _ _ _ _ _ _ _ _ _ _ _ _ _ _ _
   ·refine Zaa fun h1 _=>?_
    refine Zaa fun i1 _=>?_
    refine Zma (ZBx _ _ _ _ _ _ _ _ _ _ _ _ _ _ _ _ _ _ _ _ _) (fun s=>?_)
    rcases s with ⟨j1,l1⟩ | ⟨m1,n1,o1,p1,q1,r1,s1,t1,u1,v1,w1,x1,y1,z1,A1,B1,C1⟩
    ·exact Zda rfl
    ·exact ih _ _ _ _ _ _ _ _ _ _ _ _ _ _ _ _ _
  ·exact Zda rfl
def Zmn (n:Nat)(a b:Cs)(d:Bool)(e:Int)(f:Rs)(g i:Int)(j:Bool)(l o:Int)(q t u v z A:Rs)(B:PV):Option ((Int × Int) ⊕ ((Cs) × (Cs) × Bool × Int × Rs × Int × Int × Int × Int × Rs × Rs × Rs × Rs × Rs × Rs × PV)) :=
 cond j (
  some (Sum.inl (1,0))) (
  some (Sum.inr (a,b,d,e,f,g,i,l,o,q,t,u,v,z,A,B)))
theorem ZIx {R:Type} (n:Nat)(a b:Cs)(d:Bool)(e:Int)(f:Rs)(g i:Int)(j:Bool)(l o:Int)(q t u v z A:Rs)(B:PV)(k0:Int→Int→Option R)(k1:Cs→Cs→Bool→Int→Rs→Int→Int→Int→Int→Rs→Rs→Rs→Rs→Rs→Rs→PV→Option R):Tw (Zmn n a b d e f g i j l o q t u v z A B) (Zrk n a b d e f g i j l o q t u v z A B k0 k1) (fun s=>match s with | (Sum.inl (a0,a1))=>k0 a0 a1 | (Sum.inr (a0,a1,a2,a3,a4,a5,a6,a7,a8,a9,C,D,E,F,G,H))=>k1 a0 a1 a2 a3 a4 a5 a6 a7 a8 a9 C D E F G H):=by
 unfold Zmn Zrk
 refine Zha (fun _=>?_) (fun _=>?_)
 ·exact Zda rfl
 ·exact Zda rfl
def ZCm:Nat→Cs→Cs→Bool→Int→Int→Rs→Int→Int→Int→Int→Rs→Rs→Rs→Rs→Rs→Rs→Kv→Option ((Int × Int) ⊕ ((Cs) × (Cs) × Bool × Int × Int × Int × Int × Rs × Rs × Rs × Rs × Rs × Rs × (Kv)))
 | 0,_,_,_,_,_,_,_,_,_,_,_,_,_,_,_,_,_=>none
 | n + 1,a,b,d,e,f,g,i,j,l,o,q,t,u,v,z,A,B =>
  cond (decide (j < i)) (
   Option.bind (idx g j) fun C =>
   if C.length=1 then
    Option.bind (C[0]?) fun D =>
    Option.bind (PV.asI .i64 D) fun E =>
    Option.bind (mget T 3 (PV.int .i64 E) B) fun F =>
    Option.bind (PV.asB (Option.getD F (PV.bool false))) fun G =>
    cond G (
     some (Sum.inl (1,0))) (
     Option.bind (mset T 3 (PV.int .i64 E) (PV.bool true) B) fun H =>
     ZCm n a b d e f g i (IntKind.i64.wrap (j + (1:Int))) l o q t u v z A H)
   else none) (
   some (Sum.inr (a,b,d,e,f,l,o,q,t,u,v,z,A,B)))
theorem ZiH {R:Type} (n:Nat)(a b:Cs)(d:Bool)(e f:Int)(g:Rs)(i j l o:Int)(q t u v z A:Rs)(B:Kv)(k0:Int→Int→Option R)(k1:Cs→Cs→Bool→Int→Int→Int→Int→Rs→Rs→Rs→Rs→Rs→Rs→Kv→Option R):Tw (ZCm n a b d e f g i j l o q t u v z A B) (ZWk n a b d e f g i j l o q t u v z A B k0 k1) (fun s=>match s with | (Sum.inl (a0,a1))=>k0 a0 a1 | (Sum.inr (a0,a1,a2,a3,a4,a5,a6,a7,a8,a9,C,D,E,F))=>k1 a0 a1 a2 a3 a4 a5 a6 a7 a8 a9 C D E F):=by
 induction n generalizing a b d e f g i j l o q t u v z A B with
 | zero=>exact Zwa
 | succ n ih =>
  unfold ZCm ZWk
  refine Zha (fun _=>?_) (fun _=>?_)
  ·refine Zaa fun G _=>?_
   refine Zqa fun _=>?_
   refine Zaa fun H _=>?_
   refine Zaa fun I _=>?_
   refine Zaa fun J _=>?_
   refine Zaa fun K _=>?_
   refine Zha (fun _=>?_) (fun _=>?_)
   ·exact Zda rfl
   ·refine Zaa fun L _=>?_
    exact ih _ _ _ _ _ _ _ _ _ _ _ _ _ _ _ _ _
  ·exact Zda rfl
def ZRn:Nat→Rs→Int→Int→Int→Int→Rs→Rs→Rs→Rs→Rs→Rs→Rs→Rs→Rs→Kv→Option ((Int × Int × Rs × Rs × Rs × Rs × Rs × Rs × Rs × Rs × Rs × (Kv)))
 | 0,_,_,_,_,_,_,_,_,_,_,_,_,_,_,_=>none
 | n + 1,a,b,d,e,f,g,i,j,l,o,q,t,u,v,z =>
  cond (decide (d < b)) (
   Option.bind (idx a d) fun A =>
   if A.length=3 then
    Option.bind (Zra A 0 3) fun B =>
    if (PV.isAgg B 3)=true then
     Option.bind ((PV.cells B)[0]?) fun C =>
     Option.bind (PV.asI .i64 C) fun D =>
     Option.bind ((PV.cells B)[2]?) fun E =>
     Option.bind (PV.asI .i64 E) fun F =>
     if 0≤D∧D < (j.length:Int) then
      Option.bind (j[(Int.toNat D)]?) fun G =>
      Option.bind (G[0]?) fun H =>
      Option.bind ((PV.cells B)[0]?) fun I =>
      Option.bind (PV.asI .i64 I) fun J =>
      if 0≤J∧J < (q.length:Int) then
       Option.bind (q[(Int.toNat J)]?) fun K =>
       Option.bind (K[0]?) fun L =>
       Option.bind (PV.asI .i64 L) fun M =>
       if 0≤J∧J < (q.length:Int) then
        Option.bind (q[(Int.toNat J)]?) fun N =>
        Option.bind (N[0]?) fun O =>
        ZRn n a b (IntKind.i64.wrap (d + (1:Int))) e f g i (List.set j (Int.toNat D) (List.set G 0 (PV.int .i64 F))) l o (List.set q (Int.toNat J) (List.set N 0 (PV.int .i64 (IntKind.i64.wrap (M + (1:Int)))))) t u v z
       else none
      else none
     else none
    else none
   else none) (
   some (e,f,g,i,j,l,o,q,t,u,v,z))
theorem ZtH {R:Type} (n:Nat)(a:Rs)(b d e f:Int)(g i j l o q t u v:Rs)(z:Kv)(k0:Int→Int→Rs→Rs→Rs→Rs→Rs→Rs→Rs→Rs→Rs→Kv→Option R):Tw (ZRn n a b d e f g i j l o q t u v z) (Z7k n a b d e f g i j l o q t u v z k0) (fun s=>match s with | (a0,a1,a2,a3,a4,a5,a6,a7,a8,a9,A,B)=>k0 a0 a1 a2 a3 a4 a5 a6 a7 a8 a9 A B):=by
 induction n generalizing a b d e f g i j l o q t u v z with
 | zero=>exact Zwa
 | succ n ih =>
  unfold ZRn Z7k
  refine Zha (fun _=>?_) (fun _=>?_)
  ·refine Zaa fun C _=>?_
   refine Zqa fun _=>?_
   refine Zaa fun D _=>?_
   refine Zqa fun _=>?_
   refine Zaa fun E _=>?_
   refine Zaa fun F _=>?_
   refine Zaa fun G _=>?_
   refine Zaa fun H _=>?_
   refine Zqa fun _=>?_
   refine Zaa fun I _=>?_
   refine Zaa fun J _=>?_
   refine Zaa fun K _=>?_
   refine Zaa fun L _=>?_
   refine Zqa fun _=>?_
   refine Zaa fun M _=>?_
   refine Zaa fun N _=>?_
   refine Zaa fun O _=>?_
   refine Zqa fun _=>?_
   refine Zaa fun Q _=>?_
   refine Zaa fun U _=>?_
   exact ih _ _ _ _ _ _ _ _ _ _ _ _ _ _ _
  ·exact Zda rfl
def Zhn (n:Nat)(a b:Cs)(d:Bool)(e:Int)(f:Rs)(g i j l:Int)(o q t u v z:Rs)(A:PV):Option (((Cs) × (Cs) × Bool × Rs × Int × Int × Int × Int × Rs × Rs × Rs × Rs × Rs × Rs)) :=
 cond d (
  Option.bind ((PV.cells A)[1]?) fun B =>
  Option.bind (PV.asI .i64 B) fun C =>
  some (a,b,(e == C),f,g,i,j,l,o,q,t,u,v,z)) (
  some (a,b,false,f,g,i,j,l,o,q,t,u,v,z))
theorem Zox {R:Type} (n:Nat)(a b:Cs)(d:Bool)(e:Int)(f:Rs)(g i j l:Int)(o q t u v z:Rs)(A:PV)(k0:Cs→Cs→Bool→Rs→Int→Int→Int→Int→Rs→Rs→Rs→Rs→Rs→Rs→Option R):Tw (Zhn n a b d e f g i j l o q t u v z A) (ZMk n a b d e f g i j l o q t u v z A k0) (fun s=>match s with | (a0,a1,a2,a3,a4,a5,a6,a7,a8,a9,B,C,D,E)=>k0 a0 a1 a2 a3 a4 a5 a6 a7 a8 a9 B C D E):=by
 unfold Zhn ZMk
 refine Zha (fun _=>?_) (fun _=>?_)
 ·refine Zaa fun F _=>?_
  refine Zaa fun G _=>?_
  exact Zda rfl
 ·exact Zda rfl
def Zfn:Nat→Rs→Int→Int→Int→Int→Rs→Rs→Rs→Rs→Rs→Rs→Rs→Rs→Rs→Kv→Option ((Int × Int × Rs × Rs × Rs × Rs × Rs × Rs × Rs × Rs × Rs × (Kv)))
 | 0,_,_,_,_,_,_,_,_,_,_,_,_,_,_,_=>none
 | n + 1,a,b,d,e,f,g,i,j,l,o,q,t,u,v,z =>
  cond (decide (d < b)) (
   Option.bind (idx a d) fun A =>
   if A.length=3 then
    Option.bind (Zra A 0 3) fun B =>
    if (PV.isAgg B 3)=true then
     Option.bind ((PV.cells B)[0]?) fun C =>
     Option.bind (PV.asI .i64 C) fun D =>
     Option.bind ((PV.cells B)[0]?) fun E =>
     Option.bind (PV.asI .i64 E) fun F =>
     Option.bind ((PV.cells B)[2]?) fun G =>
     Option.bind (PV.asI .i64 G) fun H =>
     if 0≤D∧D < (i.length:Int) then
      Option.bind (i[(Int.toNat D)]?) fun I =>
      Option.bind (I[0]?) fun J =>
      Option.bind (mset T 3 (PV.int .i64 F) (PV.bool true) z) fun K =>
      Zfn n a b (IntKind.i64.wrap (d + (1:Int))) e f g (List.set i (Int.toNat D) (List.set I 0 (PV.int .i64 H))) j l o q t u v K
     else none
    else none
   else none) (
   some (e,f,g,i,j,l,o,q,t,u,v,z))
theorem ZWH {R:Type} (n:Nat)(a:Rs)(b d e f:Int)(g i j l o q t u v:Rs)(z:Kv)(k0:Int→Int→Rs→Rs→Rs→Rs→Rs→Rs→Rs→Rs→Rs→Kv→Option R):Tw (Zfn n a b d e f g i j l o q t u v z) (ZLa n a b d e f g i j l o q t u v z k0) (fun s=>match s with | (a0,a1,a2,a3,a4,a5,a6,a7,a8,a9,A,B)=>k0 a0 a1 a2 a3 a4 a5 a6 a7 a8 a9 A B):=by
 induction n generalizing a b d e f g i j l o q t u v z with
 | zero=>exact Zwa
 | succ n ih =>
  unfold Zfn ZLa
  refine Zha (fun _=>?_) (fun _=>?_)
  ·refine Zaa fun C _=>?_
   refine Zqa fun _=>?_
   refine Zaa fun D _=>?_
   refine Zqa fun _=>?_
   intro s hs
   obtain ⟨E,F,hs⟩:=Zba hs
   obtain ⟨G,H,hs⟩:=Zba hs
   obtain ⟨I,J,hs⟩:=Zba hs
   cases F.symm.trans J
   obtain ⟨K,L,hs⟩:=Zba hs
   cases H.symm.trans L
   obtain ⟨M,N,hs⟩:=Zba hs
   obtain ⟨O,Q,hs⟩:=Zba hs
   obtain ⟨U,hs⟩:=ZSa hs
   obtain ⟨V,W,hs⟩:=Zba hs
   obtain ⟨X,Y,hs⟩:=Zba hs
   obtain ⟨Z,b1,hs⟩:=Zba hs
   have c1:=ih _ _ _ _ _ _ _ _ _ _ _ _ _ _ _ s hs
   simp only [F,H,N,Q,U,W,Y,b1,c1,Option.bind_some,cond_true,cond_false,if_true,if_false,ite_true,ite_false,ZGa,and_self,true_and,and_true,eq_self,not_true_eq_false,not_false_eq_true,Bool.false_eq_true,reduceCtorEq]
  ·exact Zda rfl
def ZWs (n:Nat)(a b:Cs)(d:Bool)(e:Rs)(f g i j:Int)(l o q t u v:Rs)(z:PV):Option (((Cs) × (Cs) × Bool × Rs × Int × Int × Int × Int × Rs × Rs × Rs × Rs × Rs × Rs) ⊕ (Int × Int)) :=
 Option.bind ((PV.cells z)[2]?) fun A =>
 Option.bind (PV.asFs A) fun B =>
 Option.bind (ZZi n a b d e f g B (B.length:Int) 0 i j l o q t u v) fun s=>match s with
  | (Sum.inl (C,D,E,F,G,H,I,J,K,L,M,N,O,Q)) =>
   some (Sum.inl (C,D,E,F,G,H,I,J,K,L,M,N,O,Q))
  | (Sum.inr (U,V)) =>
   some (Sum.inr (U,V))
theorem ZjI {R:Type} (n:Nat)(a b:Cs)(d:Bool)(e:Rs)(f g i j:Int)(l o q t u v:Rs)(z:PV)(k0:Cs→Cs→Bool→Rs→Int→Int→Int→Int→Rs→Rs→Rs→Rs→Rs→Rs→Option R)(k1:Int→Int→Option R):Tw (ZWs n a b d e f g i j l o q t u v z) (Z6b n a b d e f g i j l o q t u v z k0 k1) (fun s=>match s with | (Sum.inl (a0,a1,a2,a3,a4,a5,a6,a7,a8,a9,A,B,C,D))=>k0 a0 a1 a2 a3 a4 a5 a6 a7 a8 a9 A B C D | (Sum.inr (a0,a1))=>k1 a0 a1):=by
 unfold ZWs Z6b
 refine Zaa fun E _=>?_
 refine Zaa fun F _=>?_
 refine Zma (Z4H _ _ _ _ _ _ _ _ _ _ _ _ _ _ _ _ _ _ _ _) (fun s=>?_)
 rcases s with ⟨G,H,I,J,K,L,M,N,O,Q,U,V,W,X⟩ | ⟨Y,Z⟩
 ·exact Zda rfl
 ·exact Zda rfl
def ZXn:Nat→Rs→Int→Int→Int→Int→Rs→Rs→Rs→Rs→Rs→Rs→Rs→Rs→Rs→Option ((Int × Int × Rs × Rs × Rs × Rs × Rs × Rs × Rs × Rs × Rs))
 | 0,_,_,_,_,_,_,_,_,_,_,_,_,_,_=>none
 | n + 1,a,b,d,e,f,g,i,j,l,o,q,t,u,v =>
  cond (decide (d < b)) (
   Option.bind (idx a d) fun z =>
   if z.length=3 then
    Option.bind (Zra z 0 3) fun A =>
    if (PV.isAgg A 3)=true then
     Option.bind ((PV.cells A)[0]?) fun B =>
     Option.bind (PV.asI .i64 B) fun C =>
     if 0≤C∧C < (l.length:Int) then
      Option.bind (l[(Int.toNat C)]?) fun D =>
      Option.bind (D[0]?) fun E =>
      Option.bind (PV.asI .i64 E) fun F =>
      if 0≤C∧C < (l.length:Int) then
       Option.bind (l[(Int.toNat C)]?) fun G =>
       Option.bind (G[0]?) fun H =>
       ZXn n a b (IntKind.i64.wrap (d + (1:Int))) e f g i j (List.set l (Int.toNat C) (List.set G 0 (PV.int .i64 (IntKind.i64.wrap (F + (1:Int)))))) o q t u v
      else none
     else none
    else none
   else none) (
   some (e,f,g,i,j,l,o,q,t,u,v))
theorem ZYH {R:Type} (n:Nat)(a:Rs)(b d e f:Int)(g i j l o q t u v:Rs)(k0:Int→Int→Rs→Rs→Rs→Rs→Rs→Rs→Rs→Rs→Rs→Option R):Tw (ZXn n a b d e f g i j l o q t u v) (ZKk n a b d e f g i j l o q t u v k0) (fun s=>match s with | (a0,a1,a2,a3,a4,a5,a6,a7,a8,a9,z)=>k0 a0 a1 a2 a3 a4 a5 a6 a7 a8 a9 z):=by
 induction n generalizing a b d e f g i j l o q t u v with
 | zero=>exact Zwa
 | succ n ih =>
  unfold ZXn ZKk
  refine Zha (fun _=>?_) (fun _=>?_)
  ·refine Zaa fun A _=>?_
   refine Zqa fun _=>?_
   refine Zaa fun B _=>?_
   refine Zqa fun _=>?_
   refine Zaa fun C _=>?_
   refine Zaa fun D _=>?_
   refine Zqa fun _=>?_
   refine Zaa fun E _=>?_
   refine Zaa fun F _=>?_
   refine Zaa fun G _=>?_
   refine Zqa fun _=>?_
   refine Zaa fun H _=>?_
   refine Zaa fun I _=>?_
   exact ih _ _ _ _ _ _ _ _ _ _ _ _ _ _
  ·exact Zda rfl
def ZAn (n:Nat)(a b:Cs)(d:Bool)(e:Rs)(f g:Int)(i:Bool)(j l:Int)(o q t u v z:Rs)(A:PV):Option ((Int × Int) ⊕ ((Cs) × (Cs) × Bool × Rs × Int × Int × Int × Int × Rs × Rs × Rs × Rs × Rs × Rs × PV)) :=
 cond i (
  some (Sum.inl (1,0))) (
  some (Sum.inr (a,b,d,e,f,g,j,l,o,q,t,u,v,z,A)))
theorem Zrx {R:Type} (n:Nat)(a b:Cs)(d:Bool)(e:Rs)(f g:Int)(i:Bool)(j l:Int)(o q t u v z:Rs)(A:PV)(k0:Int→Int→Option R)(k1:Cs→Cs→Bool→Rs→Int→Int→Int→Int→Rs→Rs→Rs→Rs→Rs→Rs→PV→Option R):Tw (ZAn n a b d e f g i j l o q t u v z A) (Z5k n a b d e f g i j l o q t u v z A k0 k1) (fun s=>match s with | (Sum.inl (a0,a1))=>k0 a0 a1 | (Sum.inr (a0,a1,a2,a3,a4,a5,a6,a7,a8,a9,B,C,D,E,F))=>k1 a0 a1 a2 a3 a4 a5 a6 a7 a8 a9 B C D E F):=by
 unfold ZAn Z5k
 refine Zha (fun _=>?_) (fun _=>?_)
 ·exact Zda rfl
 ·exact Zda rfl
def Zmm (n:Nat)(a b:Cs)(d:Bool)(e:Rs)(f g i j:Int)(l o q t u v:Rs)(z:PV):Option (((Cs) × (Cs) × Bool × Rs × Int × Int × Int × Int × Rs × Rs × Rs × Rs × Rs × Rs) ⊕ (Int × Int)) :=
 Option.bind ((PV.cells z)[0]?) fun A =>
 Option.bind (PV.asI .i64 A) fun B =>
 Option.bind ((PV.cells z)[2]?) fun C =>
 Option.bind (PV.asFs C) fun D =>
 if ZJa 1 D=true then
  if (D.length) * 8≤Zla then
   if 0≤B∧B < (l.length:Int) then
    Option.bind (l[(Int.toNat B)]?) fun E =>
    Option.bind (E[0]?) fun F =>
    Option.bind (ZWs n a b d e f g i j (List.set l (Int.toNat B) (List.set E 0 (PV.fs D))) o q t u v z) fun s=>match s with
     | (Sum.inl (G,H,I,J,K,L,M,N,O,Q,U,V,W,X)) =>
      some (Sum.inl (G,H,I,J,K,L,M,N,O,Q,U,V,W,X))
     | (Sum.inr (Y,Z)) =>
      some (Sum.inr (Y,Z))
   else none
  else none
 else none
theorem Zgx {R:Type} (n:Nat)(a b:Cs)(d:Bool)(e:Rs)(f g i j:Int)(l o q t u v:Rs)(z:PV)(k0:Cs→Cs→Bool→Rs→Int→Int→Int→Int→Rs→Rs→Rs→Rs→Rs→Rs→Option R)(k1:Int→Int→Option R):Tw (Zmm n a b d e f g i j l o q t u v z) (Zli n a b d e f g i j l o q t u v z k0 k1) (fun s=>match s with | (Sum.inl (a0,a1,a2,a3,a4,a5,a6,a7,a8,a9,A,B,C,D))=>k0 a0 a1 a2 a3 a4 a5 a6 a7 a8 a9 A B C D | (Sum.inr (a0,a1))=>k1 a0 a1):=by
 unfold Zmm Zli
 intro s hs
 obtain ⟨E,F,hs⟩:=Zba hs
 obtain ⟨G,H,hs⟩:=Zba hs
 obtain ⟨I,J,hs⟩:=Zba hs
 obtain ⟨K,L,hs⟩:=Zba hs
 obtain ⟨M,hs⟩:=ZSa hs
 obtain ⟨N,hs⟩:=ZSa hs
 obtain ⟨O,hs⟩:=ZSa hs
 obtain ⟨Q,U,hs⟩:=Zba hs
 obtain ⟨V,W,hs⟩:=Zba hs
 obtain ⟨X,Y,hs⟩:=Zba hs
 have Z:=fun k0 k1=>ZjI (R:=R) _ _ _ _ _ _ _ _ _ _ _ _ _ _ _ _ k0 k1 _ Y
 rcases X with ⟨b1,c1,d1,e1,f1,g1,h1,i1,j1,l1,m1,n1,o1,p1⟩ | ⟨q1,r1⟩
 ·cases hs
  simp only [F,H,J,L,M,N,O,U,W,Z,Option.bind_some,cond_true,cond_false,if_true,if_false,ite_true,ite_false,ZGa,and_self,true_and,and_true,eq_self,not_true_eq_false,not_false_eq_true,Bool.false_eq_true,reduceCtorEq]
 ·cases hs
  simp only [F,H,J,L,M,N,O,U,W,Z,Option.bind_some,cond_true,cond_false,if_true,if_false,ite_true,ite_false,ZGa,and_self,true_and,and_true,eq_self,not_true_eq_false,not_false_eq_true,Bool.false_eq_true,reduceCtorEq]
def Zen (n:Nat)(a b:Cs)(d:Bool)(e:Rs)(f g i j:Int)(l o q t u v:Rs)(z:PV):Option (((Cs) × (Cs) × Bool × Rs × Int × Int × Int × Int × Rs × Rs × Rs × Rs × Rs × Rs) ⊕ (Int × Int)) :=
 cond d (
  Option.bind (a[0]?) fun A =>
  Option.bind (PV.asFs A) fun B =>
  Option.bind ((PV.cells z)[0]?) fun C =>
  Option.bind (PV.asI .i64 C) fun D =>
  Option.bind (idx B D) fun E =>
  if E.length=1 then
   Option.bind (E[0]?) fun F =>
   Option.bind (PV.asFs F) fun G =>
   Option.bind ((PV.cells z)[1]?) fun H =>
   Option.bind (PV.asFs H) fun I =>
   Option.bind (Zve G I) fun J =>
   Option.bind (Zmm n a b J e f g i j l o q t u v z) fun s=>match s with
    | (Sum.inl (K,L,M,N,O,Q,U,V,W,X,Y,Z,a1,b1)) =>
     some (Sum.inl (K,L,M,N,O,Q,U,V,W,X,Y,Z,a1,b1))
    | (Sum.inr (c1,d1)) =>
     some (Sum.inr (c1,d1))
  else none) (
  Option.bind (Zmm n a b false e f g i j l o q t u v z) fun s=>match s with
   | (Sum.inl (e1,f1,g1,h1,i1,j1,k1,l1,m1,n1,o1,p1,q1,r1)) =>
    some (Sum.inl (e1,f1,g1,h1,i1,j1,k1,l1,m1,n1,o1,p1,q1,r1))
   | (Sum.inr (s1,t1)) =>
    some (Sum.inr (s1,t1)))
theorem Zlx {R:Type} (n:Nat)(a b:Cs)(d:Bool)(e:Rs)(f g i j:Int)(l o q t u v:Rs)(z:PV)(k0:Cs→Cs→Bool→Rs→Int→Int→Int→Int→Rs→Rs→Rs→Rs→Rs→Rs→Option R)(k1:Int→Int→Option R):Tw (Zen n a b d e f g i j l o q t u v z) (Znk n a b d e f g i j l o q t u v z k0 k1) (fun s=>match s with | (Sum.inl (a0,a1,a2,a3,a4,a5,a6,a7,a8,a9,A,B,C,D))=>k0 a0 a1 a2 a3 a4 a5 a6 a7 a8 a9 A B C D | (Sum.inr (a0,a1))=>k1 a0 a1):=by
 unfold Zen Znk
 refine Zha (fun _=>?_) (fun _=>?_)
 ·refine Zaa fun E _=>?_
  refine Zaa fun F _=>?_
  intro s hs
  obtain ⟨G,H,hs⟩:=Zba hs
  obtain ⟨I,J,hs⟩:=Zba hs
  obtain ⟨K,L,hs⟩:=Zba hs
  obtain ⟨M,hs⟩:=ZSa hs
  obtain ⟨N,O,hs⟩:=Zba hs
  obtain ⟨Q,U,hs⟩:=Zba hs
  obtain ⟨V,W,hs⟩:=Zba hs
  obtain ⟨X,Y,hs⟩:=Zba hs
  obtain ⟨Z,b1,hs⟩:=Zba hs
  obtain ⟨c1,d1,hs⟩:=Zba hs
  have e1:=fun k0 k1=>Zgx (R:=R) _ _ _ _ _ _ _ _ _ _ _ _ _ _ _ _ k0 k1 _ d1
  rcases c1 with ⟨f1,g1,h1,i1,j1,l1,m1,n1,o1,p1,q1,r1,s1,t1⟩ | ⟨u1,v1⟩
  ·cases hs
   simp only [H,J,L,M,O,U,W,Y,b1,e1,Option.bind_some,cond_true,cond_false,if_true,if_false,ite_true,ite_false,ZGa,and_self,true_and,and_true,eq_self,not_true_eq_false,not_false_eq_true,Bool.false_eq_true,reduceCtorEq]
  ·cases hs
   simp only [H,J,L,M,O,U,W,Y,b1,e1,Option.bind_some,cond_true,cond_false,if_true,if_false,ite_true,ite_false,ZGa,and_self,true_and,and_true,eq_self,not_true_eq_false,not_false_eq_true,Bool.false_eq_true,reduceCtorEq]
 ·intro s hs
  obtain ⟨w1,x1,hs⟩:=Zba hs
  have y1:=fun k0 k1=>Zgx (R:=R) _ _ _ _ _ _ _ _ _ _ _ _ _ _ _ _ k0 k1 _ x1
  rcases w1 with ⟨z1,A1,B1,C1,D1,E1,F1,G1,H1,I1,J1,K1,L1,M1⟩ | ⟨N1,O1⟩
  ·cases hs
   simp only [y1,Option.bind_some,cond_true,cond_false,if_true,if_false,ite_true,ite_false,ZGa,and_self,true_and,and_true,eq_self,not_true_eq_false,not_false_eq_true,Bool.false_eq_true,reduceCtorEq]
  ·cases hs
   simp only [y1,Option.bind_some,cond_true,cond_false,if_true,if_false,ite_true,ite_false,ZGa,and_self,true_and,and_true,eq_self,not_true_eq_false,not_false_eq_true,Bool.false_eq_true,reduceCtorEq]
def ZOi:Nat→Cs→Cs→Bool→Rs→Int→Int→Int→Int→Rs→Rs→Rs→Rs→Rs→Rs→Option ((Int × Int) ⊕ ((Cs) × Bool × Int × Int × Rs × Rs × Rs × Rs × Rs × Rs))
 | 0,_,_,_,_,_,_,_,_,_,_,_,_,_,_=>none
 | n + 1,a,b,d,e,f,g,i,j,l,o,q,t,u,v =>
  cond (decide (g < f)) (
   Option.bind (idx e g) fun z =>
   if z.length=3 then
    Option.bind (Zra z 0 3) fun A =>
    if (PV.isAgg A 3)=true then
     Option.bind (a[2]?) fun B =>
     Option.bind (PV.asFs B) fun C =>
     Option.bind ((PV.cells A)[0]?) fun D =>
     Option.bind (PV.asI .i64 D) fun E =>
     Option.bind (ZZm C E) fun F =>
     cond (!F.2) (
      some (Sum.inl (1,0))) (
      cond d (
       Option.bind ((PV.cells A)[1]?) fun G =>
       Option.bind (PV.asI .i64 G) fun H =>
       ZOi n a b (F.1 == H) e f (IntKind.i64.wrap (g + (1:Int))) i j l o q t u v) (
       ZOi n a b false e f (IntKind.i64.wrap (g + (1:Int))) i j l o q t u v))
    else none
   else none) (
   some (Sum.inr (b,d,i,j,l,o,q,t,u,v)))
theorem ZSH {R:Type} (n:Nat)(a b:Cs)(d:Bool)(e:Rs)(f g i j:Int)(l o q t u v:Rs)(k0:Int→Int→Option R)(k1:Cs→Bool→Int→Int→Rs→Rs→Rs→Rs→Rs→Rs→Option R):Tw (ZOi n a b d e f g i j l o q t u v) (Zhi n a b d e f g i j l o q t u v k0 k1) (fun s=>match s with | (Sum.inl (a0,a1))=>k0 a0 a1 | (Sum.inr (a0,a1,a2,a3,a4,a5,a6,a7,a8,a9))=>k1 a0 a1 a2 a3 a4 a5 a6 a7 a8 a9):=by
 induction n generalizing a b d e f g i j l o q t u v with
 | zero=>exact Zwa
 | succ n ih =>
  unfold ZOi Zhi
  refine Zha (fun _=>?_) (fun _=>?_)
  ·refine Zaa fun z _=>?_
   refine Zqa fun _=>?_
   refine Zaa fun A _=>?_
   refine Zqa fun _=>?_
   refine Zaa fun B _=>?_
   refine Zaa fun C _=>?_
   refine Zaa fun D _=>?_
   refine Zaa fun E _=>?_
   refine Zaa fun F _=>?_
   refine Zha (fun _=>?_) (fun _=>?_)
   ·exact Zda rfl
   ·refine Zha (fun _=>?_) (fun _=>?_)
    ·refine Zaa fun G _=>?_
     refine Zaa fun H _=>?_
     exact ih _ _ _ _ _ _ _ _ _ _ _ _ _ _
    ·exact ih _ _ _ _ _ _ _ _ _ _ _ _ _ _
  ·exact Zda rfl
def ZDi:Nat→Cs→Cs→Bool→Rs→Int→Int→Int→Int→Rs→Rs→Rs→Rs→Rs→Rs→Option (((Cs) × (Cs) × Bool × Int × Int × Rs × Rs × Rs × Rs × Rs × Rs) ⊕ (Int × Int))
 | 0,_,_,_,_,_,_,_,_,_,_,_,_,_,_=>none
 | n + 1,a,b,d,e,f,g,i,j,l,o,q,t,u,v =>
  cond (decide (g < f)) (
   Option.bind (idx e g) fun z =>
   if z.length=3 then
    Option.bind (Zra z 0 3) fun A =>
    if (PV.isAgg A 3)=true then
     Option.bind (a[1]?) fun B =>
     Option.bind (PV.asFs B) fun C =>
     Option.bind ((PV.cells A)[0]?) fun D =>
     Option.bind (PV.asI .i64 D) fun E =>
     Option.bind (ZZm C E) fun F =>
     cond (!F.2) (
      Option.bind (Zmn n a b d F.1 e f g true i j l o q t u v A) fun s=>match s with
       | (Sum.inl (G,H)) =>
        some (Sum.inr (G,H))
       | (Sum.inr (I,J,K,L,M,N,O,Q,U,V,W,X,Y,Z,a1,b1)) =>
        Option.bind (Zhn n I J K L M N O Q U V W X Y Z a1 b1) fun s=>match s with
         | (c1,d1,e1,f1,g1,h1,i1,j1,k1,l1,m1,n1,o1,p1) =>
          ZDi n c1 d1 e1 f1 g1 (IntKind.i64.wrap (h1 + (1:Int))) i1 j1 k1 l1 m1 n1 o1 p1) (
      Option.bind ((PV.cells A)[0]?) fun q1 =>
      Option.bind (PV.asI .i64 q1) fun r1 =>
      Option.bind (Zmn n a b d F.1 e f g (r1 ==(0:Int)) i j l o q t u v A) fun s=>match s with
       | (Sum.inl (s1,t1)) =>
        some (Sum.inr (s1,t1))
       | (Sum.inr (u1,v1,w1,x1,y1,z1,A1,B1,C1,D1,E1,F1,G1,H1,I1,J1)) =>
        Option.bind (Zhn n u1 v1 w1 x1 y1 z1 A1 B1 C1 D1 E1 F1 G1 H1 I1 J1) fun s=>match s with
         | (K1,L1,M1,N1,O1,P1,Q1,R1,S1,T1,U1,V1,W1,X1) =>
          ZDi n K1 L1 M1 N1 O1 (IntKind.i64.wrap (P1 + (1:Int))) Q1 R1 S1 T1 U1 V1 W1 X1)
    else none
   else none) (
   some (Sum.inl (a,b,d,i,j,l,o,q,t,u,v)))
theorem ZXH {R:Type} (n:Nat)(a b:Cs)(d:Bool)(e:Rs)(f g i j:Int)(l o q t u v:Rs)(k0:Cs→Cs→Bool→Int→Int→Rs→Rs→Rs→Rs→Rs→Rs→Option R)(k1:Int→Int→Option R):Tw (ZDi n a b d e f g i j l o q t u v) (Zai n a b d e f g i j l o q t u v k0 k1) (fun s=>match s with | (Sum.inl (a0,a1,a2,a3,a4,a5,a6,a7,a8,a9,z))=>k0 a0 a1 a2 a3 a4 a5 a6 a7 a8 a9 z | (Sum.inr (a0,a1))=>k1 a0 a1):=by
 induction n generalizing a b d e f g i j l o q t u v with
 | zero=>exact Zwa
 | succ n ih =>
  unfold ZDi Zai
  refine Zha (fun _=>?_) (fun _=>?_)
  ·refine Zaa fun A _=>?_
   refine Zqa fun _=>?_
   refine Zaa fun B _=>?_
   refine Zqa fun _=>?_
   refine Zaa fun C _=>?_
   refine Zaa fun D _=>?_
   refine Zaa fun E _=>?_
   refine Zaa fun F _=>?_
   refine Zaa fun G _=>?_
   refine Zha (fun _=>?_) (fun _=>?_)
   ·refine Zma (ZIx _ _ _ _ _ _ _ _ _ _ _ _ _ _ _ _ _ _ _ _) (fun s=>?_)
    rcases s with ⟨H,I⟩ | ⟨J,K,L,M,N,O,Q,U,V,W,X,Y,Z,b1,c1,d1⟩
    ·exact Zda rfl
    ·refine Zma (Zox _ _ _ _ _ _ _ _ _ _ _ _ _ _ _ _ _ _) (fun s=>?_)
     rcases s with ⟨e1,f1,g1,h1,i1,j1,l1,m1,n1,o1,p1,q1,r1,s1⟩
     ·exact ih _ _ _ _ _ _ _ _ _ _ _ _ _ _
   ·refine Zaa fun t1 _=>?_
    refine Zaa fun u1 _=>?_
    refine Zma (ZIx _ _ _ _ _ _ _ _ _ _ _ _ _ _ _ _ _ _ _ _) (fun s=>?_)
    rcases s with ⟨v1,w1⟩ | ⟨x1,y1,z1,A1,B1,C1,D1,E1,F1,G1,H1,I1,J1,K1,L1,M1⟩
    ·exact Zda rfl
    ·refine Zma (Zox _ _ _ _ _ _ _ _ _ _ _ _ _ _ _ _ _ _) (fun s=>?_)
     rcases s with ⟨N1,O1,P1,Q1,R1,S1,T1,U1,V1,W1,X1,Y1,Z1,b2⟩
     ·exact ih _ _ _ _ _ _ _ _ _ _ _ _ _ _
  ·exact Zda rfl
def Z9m:Nat→Cs→Cs→Bool→Int→Int→Int→Int→Rs→Rs→Rs→Rs→Rs→Rs→Kv→Option (((Cs) × (Cs) × Bool × Int × Int × Rs × Rs × Rs × Rs × Rs × Rs) ⊕ (Int × Int))
 | 0,_,_,_,_,_,_,_,_,_,_,_,_,_,_=>none
 | n + 1,a,b,d,e,f,g,i,j,l,o,q,t,u,v =>
  cond (decide (f < e)) (
   if 0≤f∧f < (j.length:Int) then
    Option.bind (j[(Int.toNat f)]?) fun z =>
    Option.bind (z[0]?) fun A =>
    Option.bind (PV.asFs A) fun B =>
    Option.bind (ZCm n a b d e f B (B.length:Int) 0 g i j l o q t u v) fun s=>match s with
     | (Sum.inl (C,D)) =>
      some (Sum.inr (C,D))
     | (Sum.inr (E,F,G,H,I,J,K,L,M,N,O,Q,U,V)) =>
      Z9m n E F G H (IntKind.i64.wrap (I + (1:Int))) J K L M N O Q U V
   else none) (
   some (Sum.inl (a,b,d,g,i,j,l,o,q,t,u)))
theorem ZKH {R:Type} (n:Nat)(a b:Cs)(d:Bool)(e f g i:Int)(j l o q t u:Rs)(v:Kv)(k0:Cs→Cs→Bool→Int→Int→Rs→Rs→Rs→Rs→Rs→Rs→Option R)(k1:Int→Int→Option R):Tw (Z9m n a b d e f g i j l o q t u v) (Zmk n a b d e f g i j l o q t u v k0 k1) (fun s=>match s with | (Sum.inl (a0,a1,a2,a3,a4,a5,a6,a7,a8,a9,z))=>k0 a0 a1 a2 a3 a4 a5 a6 a7 a8 a9 z | (Sum.inr (a0,a1))=>k1 a0 a1):=by
 induction n generalizing a b d e f g i j l o q t u v with
 | zero=>exact Zwa
 | succ n ih =>
  unfold Z9m Zmk
  refine Zha (fun _=>?_) (fun _=>?_)
  ·refine Zqa fun _=>?_
   refine Zaa fun A _=>?_
   refine Zaa fun B _=>?_
   refine Zaa fun C _=>?_
   refine Zma (ZiH _ _ _ _ _ _ _ _ _ _ _ _ _ _ _ _ _ _ _ _) (fun s=>?_)
   rcases s with ⟨D,E⟩ | ⟨F,G,H,I,J,K,L,M,N,O,Q,U,V,W⟩
   ·exact Zda rfl
   ·exact ih _ _ _ _ _ _ _ _ _ _ _ _ _ _
  ·exact Zda rfl
def Zqk:Nat→Cs→Cs→Bool→Rs→Int→Int→Int→Int→Rs→Rs→Rs→Rs→Rs→Rs→Option (((Cs) × (Cs) × Bool × Int × Int × Rs × Rs × Rs × Rs × Rs × Rs) ⊕ (Int × Int))
 | 0,_,_,_,_,_,_,_,_,_,_,_,_,_,_=>none
 | n + 1,a,b,d,e,f,g,i,j,l,o,q,t,u,v =>
  cond (decide (g < f)) (
   Option.bind (idx e g) fun z =>
   if z.length=3 then
    Option.bind (Zra z 0 3) fun A =>
    if (PV.isAgg A 3)=true then
     Option.bind ((PV.cells A)[0]?) fun B =>
     Option.bind (PV.asI .i64 B) fun C =>
     cond (decide (C < (0:Int))) (
      Option.bind (ZAn n a b d e f g true i j l o q t u v A) fun s=>match s with
       | (Sum.inl (D,E)) =>
        some (Sum.inr (D,E))
       | (Sum.inr (F,G,H,I,J,K,L,M,N,O,Q,U,V,W,X)) =>
        Option.bind (Zen n F G H I J K L M N O Q U V W X) fun s=>match s with
         | (Sum.inl (Y,Z,a1,b1,c1,d1,e1,f1,g1,h1,i1,j1,k1,l1)) =>
          Zqk n Y Z a1 b1 c1 (IntKind.i64.wrap (d1 + (1:Int))) e1 f1 g1 h1 i1 j1 k1 l1
         | (Sum.inr (m1,n1)) =>
          some (Sum.inr (m1,n1))) (
      Option.bind ((PV.cells A)[0]?) fun o1 =>
      Option.bind (PV.asI .i64 o1) fun p1 =>
      Option.bind (a[0]?) fun q1 =>
      Option.bind (PV.asFs q1) fun r1 =>
      Option.bind (ZAn n a b d e f g (decide (p1 ≥ (r1.length:Int))) i j l o q t u v A) fun s=>match s with
       | (Sum.inl (s1,t1)) =>
        some (Sum.inr (s1,t1))
       | (Sum.inr (u1,v1,w1,x1,y1,z1,A1,B1,C1,D1,E1,F1,G1,H1,I1)) =>
        Option.bind (Zen n u1 v1 w1 x1 y1 z1 A1 B1 C1 D1 E1 F1 G1 H1 I1) fun s=>match s with
         | (Sum.inl (J1,K1,L1,M1,N1,O1,P1,Q1,R1,S1,T1,U1,V1,W1)) =>
          Zqk n J1 K1 L1 M1 N1 (IntKind.i64.wrap (O1 + (1:Int))) P1 Q1 R1 S1 T1 U1 V1 W1
         | (Sum.inr (X1,Y1)) =>
          some (Sum.inr (X1,Y1)))
    else none
   else none) (
   some (Sum.inl (a,b,d,i,j,l,o,q,t,u,v)))
theorem ZlJ {R:Type} (n:Nat)(a b:Cs)(d:Bool)(e:Rs)(f g i j:Int)(l o q t u v:Rs)(k0:Cs→Cs→Bool→Int→Int→Rs→Rs→Rs→Rs→Rs→Rs→Option R)(k1:Int→Int→Option R):Tw (Zqk n a b d e f g i j l o q t u v) (ZAj n a b d e f g i j l o q t u v k0 k1) (fun s=>match s with | (Sum.inl (a0,a1,a2,a3,a4,a5,a6,a7,a8,a9,z))=>k0 a0 a1 a2 a3 a4 a5 a6 a7 a8 a9 z | (Sum.inr (a0,a1))=>k1 a0 a1):=by
 induction n generalizing a b d e f g i j l o q t u v with
 | zero=>exact Zwa
 | succ n ih =>
  unfold Zqk ZAj
  refine Zha (fun _=>?_) (fun _=>?_)
  ·refine Zaa fun A _=>?_
   refine Zqa fun _=>?_
   refine Zaa fun B _=>?_
   refine Zqa fun _=>?_
   refine Zaa fun C _=>?_
   refine Zaa fun D _=>?_
   refine Zha (fun _=>?_) (fun _=>?_)
   ·refine Zma (Zrx _ _ _ _ _ _ _ _ _ _ _ _ _ _ _ _ _ _ _) (fun s=>?_)
    rcases s with ⟨E,F⟩ | ⟨G,H,I,J,K,L,M,N,O,Q,U,V,W,X,Y⟩
    ·exact Zda rfl
    ·refine Zma (Zlx _ _ _ _ _ _ _ _ _ _ _ _ _ _ _ _ _ _) (fun s=>?_)
     rcases s with ⟨Z,b1,c1,d1,e1,f1,g1,h1,i1,j1,l1,m1,n1,o1⟩ | ⟨p1,q1⟩
     ·exact ih _ _ _ _ _ _ _ _ _ _ _ _ _ _
     ·exact Zda rfl
   ·refine Zaa fun r1 _=>?_
    refine Zaa fun s1 _=>?_
    refine Zaa fun t1 _=>?_
    refine Zaa fun u1 _=>?_
    refine Zma (Zrx _ _ _ _ _ _ _ _ _ _ _ _ _ _ _ _ _ _ _) (fun s=>?_)
    rcases s with ⟨v1,w1⟩ | ⟨x1,y1,z1,A1,B1,C1,D1,E1,F1,G1,H1,I1,J1,K1,L1⟩
    ·exact Zda rfl
    ·refine Zma (Zlx _ _ _ _ _ _ _ _ _ _ _ _ _ _ _ _ _ _) (fun s=>?_)
     rcases s with ⟨M1,N1,O1,P1,Q1,R1,S1,T1,U1,V1,W1,X1,Y1,Z1⟩ | ⟨b2,c2⟩
     ·exact ih _ _ _ _ _ _ _ _ _ _ _ _ _ _
     ·exact Zda rfl
  ·exact Zda rfl
def ZQi (p1 p2 p3 p4 p5 p6:Rs)(p7:Int)(d8 d9 a:Rs):Option (Rs × Rs × Rs × Rs × Rs × Rs × Int × Int) :=
 Option.bind (Zvd d8 d9 a) fun b =>
 cond (!b) (
  some ([],[],[],[],[],[],0,1)) (
  Option.bind (ZUe p1 p2 p3 p4 p5 p6 p7) fun d =>
  Option.bind (Zqk 9223372036854775808 [.fs p1,.fs p2,.fs p3,.fs p4,.fs p5,.fs p6,.int .i64 p7] [.fs d8,.fs d9,.fs a] true d8 (d8.length:Int) 0 0 d.2.2.2.2.2.2 d.1 d.2.1 d.2.2.1 d.2.2.2.1 d.2.2.2.2.1 d.2.2.2.2.2.1) fun s=>match s with
   | (Sum.inl (e,f,g,i16,i,j,l,o,q,t,u)) =>
    Option.bind (Z9m 9223372036854775808 e f g (j.length:Int) 0 i16 i j l o q t u ([]:Kv)) fun s=>match s with
     | (Sum.inl (v,z,A,B,C,D,E,F,G,H,I)) =>
      Option.bind (z[1]?) fun J =>
      Option.bind (PV.asFs J) fun K =>
      Option.bind (ZDi 9223372036854775808 v z A K (K.length:Int) 0 B C D E F G H I) fun s=>match s with
       | (Sum.inl (L,M,N,O,Q,U,V,W,X,Y,Z)) =>
        Option.bind (M[2]?) fun a1 =>
        Option.bind (PV.asFs a1) fun b1 =>
        Option.bind (ZOi 9223372036854775808 L M N b1 (b1.length:Int) 0 O Q U V W X Y Z) fun s=>match s with
         | (Sum.inl (c1,d1)) =>
          some ([],[],[],[],[],[],d1,c1)
         | (Sum.inr (e1,f1,g1,h1,i1,j1,k1,l1,m1,n1)) =>
          cond (!f1) (
           some ([],[],[],[],[],[],0,15)) (
           Option.bind (Zra e1 0 3) fun o1 =>
           Option.bind (Zms [o1]) fun q1 =>
           Option.bind (ZXn 9223372036854775808 q1.1 (q1.1.length:Int) 0 g1 h1 i1 j1 k1 l1 m1 n1 q1.1 q1.2.1 q1.2.2) fun s=>match s with
            | (i64,r1,s1,t1,u1,v1,w1,x1,y1,z1,A1) =>
             Option.bind (Zfn 9223372036854775808 z1 (z1.length:Int) 0 i64 r1 s1 t1 u1 v1 w1 x1 y1 z1 A1 ([]:Kv)) fun s=>match s with
              | (B1,C1,D1,E1,F1,G1,H1,I1,J1,K1,L1,M1) =>
               Option.bind (ZRn 9223372036854775808 L1 (L1.length:Int) 0 B1 C1 D1 E1 F1 G1 H1 I1 J1 K1 L1 M1) fun s=>match s with
                | (N1,O1,P1,Q1,R1,S1,T1,U1,V1,W1,X1,Y1) =>
                 Option.bind (sRMoved V1 W1 X1) fun Z1 =>
                 Option.bind (Zum 9223372036854775808 Z1 Z1 (Z1.length:Int) 0 N1 O1 P1 Q1 R1 S1 T1 U1 Y1) fun s=>match s with
                  | (a2,b2,c2,d2,e2,f2,g2,h2,i2,j2) =>
                   Option.bind (sRising (PV.fm j2)) fun k2 =>
                   Option.bind (ZVn 9223372036854775808 a2 k2 (k2.length:Int) 0 b2 c2 d2 e2 f2 g2 h2 i2) fun s=>match s with
                    | (l2,m2,n2,o2,q2,r2,s2,t2,u2) =>
                     cond (decide ((l2.length:Int) > (0:Int))) (
                      some (o2,q2,r2,s2,t2,u2,(IntKind.i64.wrap (n2 + (1:Int))),0)) (
                      some (o2,q2,r2,s2,t2,u2,n2,0)))
       | (Sum.inr (v2,w2)) =>
        some ([],[],[],[],[],[],w2,v2)
     | (Sum.inr (x2,y2)) =>
      some ([],[],[],[],[],[],y2,x2)
   | (Sum.inr (z2,A2)) =>
    some ([],[],[],[],[],[],A2,z2))
theorem ZdL {R:Type} (p1 p2 p3 p4 p5 p6:Rs)(p7:Int)(d8 d9 a:Rs)(k:Rs→Rs→Rs→Rs→Rs→Rs→Int→Int→Option R):Tw (ZQi p1 p2 p3 p4 p5 p6 p7 d8 d9 a) (ZCp 9223372036854775808 p1 p2 p3 p4 p5 p6 p7 d8 d9 a k) (fun s=>match s with | (a0,a1,a2,a3,a4,a5,a6,a7)=>k a0 a1 a2 a3 a4 a5 a6 a7):=by
 unfold ZQi ZCp
 refine Zaa fun b _=>?_
 refine Zha (fun _=>?_) (fun _=>?_)
 ·exact Zda rfl
 ·refine Zaa fun d _=>?_
  refine Zma (ZlJ _ _ _ _ _ _ _ _ _ _ _ _ _ _ _ _ _) (fun s=>?_)
  rcases s with ⟨e,f,g,i16,i,j,l,o,q,t,u⟩ | ⟨v,z⟩
  ·refine Zma (ZKH _ _ _ _ _ _ _ _ _ _ _ _ _ _ _ _ _) (fun s=>?_)
   rcases s with ⟨A,B,C,D,E,F,G,H,I,J,K⟩ | ⟨L,M⟩
   ·refine Zaa fun N _=>?_
    refine Zaa fun O _=>?_
    refine Zma (ZXH _ _ _ _ _ _ _ _ _ _ _ _ _ _ _ _ _) (fun s=>?_)
    rcases s with ⟨Q,U,V,W,X,Y,Z,b1,c1,d1,e1⟩ | ⟨f1,g1⟩
    ·refine Zaa fun h1 _=>?_
     refine Zaa fun i1 _=>?_
     refine Zma (ZSH _ _ _ _ _ _ _ _ _ _ _ _ _ _ _ _ _) (fun s=>?_)
     rcases s with ⟨j1,k1⟩ | ⟨l1,m1,n1,o1,q1,r1,s1,t1,u1,v1⟩
     ·exact Zda rfl
     ·refine Zha (fun _=>?_) (fun _=>?_)
      ·exact Zda rfl
      ·refine Zaa fun w1 _=>?_
       refine Zaa fun x1 _=>?_
       refine Zma (ZYH _ _ _ _ _ _ _ _ _ _ _ _ _ _ _ _) (fun s=>?_)
       rcases s with ⟨i64,y1,z1,A1,B1,C1,D1,E1,F1,G1,H1⟩
       ·refine Zma (ZWH _ _ _ _ _ _ _ _ _ _ _ _ _ _ _ _ _) (fun s=>?_)
        rcases s with ⟨I1,J1,K1,L1,M1,N1,O1,P1,Q1,R1,S1,T1⟩
        ·refine Zma (ZtH _ _ _ _ _ _ _ _ _ _ _ _ _ _ _ _ _) (fun s=>?_)
         rcases s with ⟨U1,V1,W1,X1,Y1,Z1,b2,c2,d2,e2,f2,g2⟩
         ·refine Zaa fun h2 _=>?_
          refine Zma (Z1H _ _ _ _ _ _ _ _ _ _ _ _ _ _ _) (fun s=>?_)
          rcases s with ⟨i2,j2,k2,l2,m2,n2,o2,q2,r2,s2⟩
          ·refine Zaa fun t2 _=>?_
           refine Zma (Z4G _ _ _ _ _ _ _ _ _ _ _ _ _ _) (fun s=>?_)
           rcases s with ⟨u2,v2,w2,x2,y2,z2,A2,B2,C2⟩
           ·refine Zha (fun _=>?_) (fun _=>?_)
            ·exact Zda rfl
            ·exact Zda rfl
    ·exact Zda rfl
   ·exact Zda rfl
  ·exact Zda rfl
theorem Z1K:∀ (p1 p2 p3 p4 p5 p6:Rs)(p7:Int)(d8 d9 a:Rs)(y:Rs × Rs × Rs × Rs × Rs × Rs × Int × Int),ZQi p1 p2 p3 p4 p5 p6 p7 d8 d9 a=some y→∃ n,∀ (R:Type)(k:Rs→Rs→Rs→Rs→Rs→Rs→Int→Int→Option R),ZCp n p1 p2 p3 p4 p5 p6 p7 d8 d9 a k=k y.1 y.2.1 y.2.2.1 y.2.2.2.1 y.2.2.2.2.1 y.2.2.2.2.2.1 y.2.2.2.2.2.2.1 y.2.2.2.2.2.2.2:=fun p1 p2 p3 p4 p5 p6 p7 d8 d9 a y h=>⟨9223372036854775808,fun R k=>ZdL p1 p2 p3 p4 p5 p6 p7 d8 d9 a k y h⟩
def ZFz:Cs→Option (Rs × Rs × Rs × Rs × Rs × Rs × Int × Int)
 | [.agg [.fs p1,.fs p2,.fs p3,.fs p4,.fs p5,.fs p6,.int .i64 p7],.agg [.fs d8,.fs d9,.fs a]]=>ZQi p1 p2 p3 p4 p5 p6 p7 d8 d9 a
 | _=>none
def Zab:List (Nat × Cal):=[(70,.ctr Zko),(29,.ctr ZQr),(66,.ctr Z2B),(73,.ctr Z9z),(74,.ctr Z6q),(72,.ctr ZsJ),(71,.ctr ZXt),(1000000002,ro_I),(1000000003,ro_I)]
def Zsy:Ctr:=⟨[none,none],Rs × Rs × Rs × Rs × Rs × Rs × Int × Int,ZFz,ZRG,false,.d⟩
def ZUa:List (Nat × LC):=[(6,⟨[2,3,4,6,7,45,46,47],[],[],[],[2,3]⟩),
 (2000006,⟨[4,5],[],[],[],[]⟩),
 (4000010,⟨[2,3,4,6,7,9,45,46,47,61],[],[],[],[]⟩),
 (1006000,⟨[2,3,4,6,7],[],[],[],[]⟩),
 (6000010,⟨[4,5],[],[],[],[]⟩),
 (5000010,⟨[2,3,4,6,7,9,45,46,47],[],[],[],[]⟩),
 (21,⟨[2,3,4,6,7,12,104,105,106],[],[],[],[]⟩),
 (13,⟨[2,3,4,6,7,45,46,47,84,85,86],[],[],[],[]⟩),
 (4000013,⟨[2,3,4,6,7,9,45,46,47],[],[],[],[]⟩),
 (4000012,⟨[2,3,4,6,7,9,45,46,47],[],[],[],[]⟩),
 (4000011,⟨[2,3,4,6,7,9,45,46,47],[],[],[],[]⟩),
 (24,⟨[2,3,4,6,7,12,104,105,106,110,111,112],[],[],[],[]⟩),
 (1021004,⟨[2,3,4,6,7],[],[],[],[]⟩),
 (2000024,⟨[4,5],[],[],[],[]⟩),
 (1024006,⟨[2,3,4,6,7,12,104,105,106],[],[],[],[]⟩),
 (32,⟨[2,3,4,6,7,125,126,127],[],[],[],[]⟩),
 (2000013,⟨[4,5],[],[],[],[]⟩),
 (4000017,⟨[2,3,4,6,7,45,46,47,84,85,86,98],[],[],[],[]⟩),
 (1013002,⟨[2,3,4,6,7,45,46,47],[],[],[],[]⟩),
 (2000021,⟨[4,5],[],[],[],[]⟩),
 (2000032,⟨[4,5],[],[],[],[]⟩),
 (4000037,⟨[2,3,4,6,7,18,19,125,126,127,145],[],[],[],[]⟩),
 (1032008,⟨[2,3,4,6,7],[],[],[],[]⟩),
 (5000013,⟨[2,3,4,6,7,45,46,47],[],[],[],[]⟩),
 (6000017,⟨[4,5],[],[],[],[]⟩),
 (5000017,⟨[2,3,4,6,7,45,46,47,84,85,86],[],[],[],[]⟩),
 (6000037,⟨[4,5],[],[],[],[]⟩),
 (5000037,⟨[2,3,4,6,7,18,19,125,126,127],[],[],[],[]⟩),
 (40,⟨[2,3,4,6,7,156,157,158],[],[],[],[]⟩),
 (4000038,⟨[2,3,4,6,7,18,19,125,126,127],[],[],[],[]⟩),
 (2000040,⟨[4,5],[],[],[],[]⟩),
 (1040010,⟨[3,4,6,7],[],[],[],[]⟩),
 (5000012,⟨[2,3,4,6,7,45,46,47],[],[],[],[]⟩),
 (6000013,⟨[4,5],[],[],[],[]⟩),
 (5000038,⟨[2,3,4,6,7,125,126,127],[],[],[],[]⟩),
 (51,⟨[4,6,25,187,188,189],[],[],[],[]⟩),
 (1051012,⟨[4,6,25],[],[],[],[]⟩),
 (5000011,⟨[2,3,4,6,7,45,46,47],[],[],[],[]⟩),
 (6000012,⟨[4,5],[],[],[],[]⟩),
 (57,⟨[4,6,25,28,204,205,206],[],[],[],[]⟩),
 (1057014,⟨[4,6,25,28],[],[],[],[]⟩),
 (6000011,⟨[4,5],[],[],[],[]⟩),
 (62,⟨[4,6,25,28,222,223,224],[],[],[],[]⟩),
 (1062016,⟨[4,6,25,28],[],[],[],[]⟩),
 (69,⟨[4,6,28,33,246,247,248],[],[],[],[]⟩),
 (1069018,⟨[4,6,28,33],[],[],[],[]⟩),
 (74,⟨[4,6,33,256,257,258],[],[],[],[]⟩),
 (1074020,⟨[4,6,33],[],[],[],[]⟩)]
def ZYs:SP:=⟨Zea .undef [(2,(.val (.rp 0))),(3,(.val (.rp 0))),(4,(.ref 0 0)),(6,(.ref 1 0)),(7,(.val .bool)),(45,(.val .fs)),(46,(.val (.int .i64))),(47,(.val (.int .i64))),(84,(.val .fs)),(85,(.val (.int .i64))),(86,(.val (.int .i64))),(98,(.val .bool))] 0 278,[(.box [(.nil 1),(.nil 1),(.nil 1),(.nil 1),(.nil 1),(.nil 1),(.val (.int .i64))]),(.box [(.ow 2),(.ow 3),(.ow 4),(.ow 5),(.ow 6),(.ow 7),(.val (.int .i64))]),(.row 1),(.row 1),(.row 1),(.row 1),(.row 1),(.row 1)],[]⟩
def ZGu:SP:=⟨Zea .undef [(4,(.ref 0 0)),(6,(.ref 1 0)),(33,(.val .fs)),(256,(.val .fs)),(257,(.val (.int .i64))),(258,(.val (.int .i64)))] 0 278,[(.box [(.nil 1),(.nil 1),(.nil 1),(.nil 1),(.nil 1),(.nil 1),(.val (.int .i64))]),(.box [(.ow 2),(.ow 3),(.ow 4),(.ow 5),(.ow 6),(.ow 7),(.val (.int .i64))]),(.row 1),(.row 1),(.row 1),(.row 1),(.row 1),(.row 1)],[]⟩
def ZUu:SP:=⟨Zea .undef [(4,(.ref 0 0)),(6,(.ref 1 0)),(28,(.mp 8)),(33,(.val .fs)),(246,(.val .fs)),(247,(.val (.int .i64))),(248,(.val (.int .i64)))] 0 278,[(.box [(.nil 1),(.nil 1),(.nil 1),(.nil 1),(.nil 1),(.nil 1),(.val (.int .i64))]),(.box [(.ow 2),(.ow 3),(.ow 4),(.ow 5),(.ow 6),(.ow 7),(.val (.int .i64))]),(.row 1),(.row 1),(.row 1),(.row 1),(.row 1),(.row 1),.map],[]⟩
def Zyu:SP:=⟨Zea .undef [(2,(.val (.rp 0))),(3,(.val (.rp 0))),(4,(.ref 0 0)),(6,(.ref 1 0)),(7,(.val .bool)),(45,(.val .fs)),(46,(.val (.int .i64))),(47,(.val (.int .i64))),(84,(.val .fs)),(85,(.val (.int .i64))),(86,(.val (.int .i64)))] 0 278,[(.box [(.nil 1),(.nil 1),(.nil 1),(.nil 1),(.nil 1),(.nil 1),(.val (.int .i64))]),(.box [(.ow 2),(.ow 3),(.ow 4),(.ow 5),(.ow 6),(.ow 7),(.val (.int .i64))]),(.row 1),(.row 1),(.row 1),(.row 1),(.row 1),(.row 1)],[]⟩
def ZCs:SP:=⟨Zea .undef [(2,(.val (.rp 0))),(3,(.val (.rp 0))),(4,(.ref 0 0)),(6,(.ref 1 0)),(7,(.val .bool)),(18,(.ref 8 0)),(19,(.val (.int .i64))),(125,(.val .fs)),(126,(.val (.int .i64))),(127,(.val (.int .i64))),(145,(.val .bool))] 0 278,[(.box [(.nil 1),(.nil 1),(.nil 1),(.nil 1),(.nil 1),(.nil 1),(.val (.int .i64))]),(.box [(.ow 2),(.ow 3),(.ow 4),(.ow 5),(.ow 6),(.ow 7),(.val (.int .i64))]),(.row 1),(.row 1),(.row 1),(.row 1),(.row 1),(.row 1),(.pbox .any 3)],[]⟩
def ZZt:SP:=⟨Zea .undef [(2,(.val (.rp 0))),(3,(.val (.rp 0))),(4,(.ref 0 0)),(6,(.ref 1 0)),(7,(.val .bool)),(12,(.mp 8)),(104,(.ow 2)),(105,(.val (.int .i64))),(106,(.val (.int .i64))),(110,(.val .fs)),(111,(.val (.int .i64))),(112,(.val (.int .i64)))] 0 278,[(.box [(.nil 1),(.nil 1),(.nil 1),(.nil 1),(.nil 1),(.nil 1),(.val (.int .i64))]),(.box [(.ow 2),(.ow 3),(.ow 4),(.ow 5),(.ow 6),(.ow 7),(.val (.int .i64))]),(.row 1),(.row 1),(.row 1),(.row 1),(.row 1),(.row 1),.map],[]⟩
def ZRu:SP:=⟨Zea .undef [(4,(.ref 0 0)),(6,(.ref 1 0)),(25,(.ref 8 0)),(28,(.mp 9)),(222,(.val .fs)),(223,(.val (.int .i64))),(224,(.val (.int .i64)))] 0 278,[(.box [(.nil 1),(.nil 1),(.nil 1),(.nil 1),(.nil 1),(.nil 1),(.val (.int .i64))]),(.box [(.ow 2),(.ow 3),(.ow 4),(.ow 5),(.ow 6),(.ow 7),(.val (.int .i64))]),(.row 1),(.row 1),(.row 1),(.row 1),(.row 1),(.row 1),(.pbox (.agg [.fs,.fs,.fs]) 3),.map],[]⟩
def ZWr:SP:=⟨Zea .undef [(2,(.val (.rp 0))),(3,(.val (.rp 0))),(4,(.ref 0 0)),(6,(.ref 1 0)),(7,(.val .bool)),(18,(.ref 8 0)),(19,(.val (.int .i64))),(125,(.val .fs)),(126,(.val (.int .i64))),(127,(.val (.int .i64)))] 0 278,[(.box [(.nil 1),(.nil 1),(.nil 1),(.nil 1),(.nil 1),(.nil 1),(.val (.int .i64))]),(.box [(.ow 2),(.ow 3),(.ow 4),(.ow 5),(.ow 6),(.ow 7),(.val (.int .i64))]),(.row 1),(.row 1),(.row 1),(.row 1),(.row 1),(.row 1),(.pbox .any 3)],[]⟩
def ZMu:SP:=⟨Zea .undef [(4,(.ref 0 0)),(6,(.ref 1 0)),(25,(.ref 8 0)),(28,(.mp 9)),(204,(.val .fs)),(205,(.val (.int .i64))),(206,(.val (.int .i64)))] 0 278,[(.box [(.nil 1),(.nil 1),(.nil 1),(.nil 1),(.nil 1),(.nil 1),(.val (.int .i64))]),(.box [(.ow 2),(.ow 3),(.ow 4),(.ow 5),(.ow 6),(.ow 7),(.val (.int .i64))]),(.row 1),(.row 1),(.row 1),(.row 1),(.row 1),(.row 1),(.pbox (.agg [.fs,.fs,.fs]) 3),.map],[]⟩
def Zvr:SP:=⟨Zea .undef [(2,(.val (.rp 0))),(3,(.val (.rp 0))),(4,(.ref 0 0)),(6,(.ref 1 0)),(7,(.val .bool)),(9,(.ref 8 0)),(45,(.val .fs)),(46,(.val (.int .i64))),(47,(.val (.int .i64)))] 0 278,[(.box [(.nil 1),(.nil 1),(.nil 1),(.nil 1),(.nil 1),(.nil 1),(.val (.int .i64))]),(.box [(.ow 2),(.ow 3),(.ow 4),(.ow 5),(.ow 6),(.ow 7),(.val (.int .i64))]),(.row 1),(.row 1),(.row 1),(.row 1),(.row 1),(.row 1),(.pbox .any 3)],[]⟩
def ZNu:SP:=⟨Zea .undef [(4,(.ref 0 0)),(6,(.ref 1 0)),(25,(.ref 8 0)),(187,(.val .fs)),(188,(.val (.int .i64))),(189,(.val (.int .i64)))] 0 278,[(.box [(.nil 1),(.nil 1),(.nil 1),(.nil 1),(.nil 1),(.nil 1),(.val (.int .i64))]),(.box [(.ow 2),(.ow 3),(.ow 4),(.ow 5),(.ow 6),(.ow 7),(.val (.int .i64))]),(.row 1),(.row 1),(.row 1),(.row 1),(.row 1),(.row 1),(.pbox (.agg [.fs,.fs,.fs]) 3)],[]⟩
def ZTs:SP:=⟨Zea .undef [(2,(.val (.rp 0))),(3,(.val (.rp 0))),(4,(.ref 0 0)),(6,(.ref 1 0)),(7,(.val .bool)),(9,(.ref 8 0)),(45,(.val .fs)),(46,(.val (.int .i64))),(47,(.val (.int .i64))),(61,(.val .bool))] 0 278,[(.box [(.nil 1),(.nil 1),(.nil 1),(.nil 1),(.nil 1),(.nil 1),(.val (.int .i64))]),(.box [(.ow 2),(.ow 3),(.ow 4),(.ow 5),(.ow 6),(.ow 7),(.val (.int .i64))]),(.row 1),(.row 1),(.row 1),(.row 1),(.row 1),(.row 1),(.pbox .any 3)],[]⟩
def ZVs:SP:=⟨Zea .undef [(2,(.val (.rp 0))),(3,(.val (.rp 0))),(4,(.ref 0 0)),(6,(.ref 1 0)),(7,(.val .bool)),(9,(.ref 8 0)),(45,(.val .fs)),(46,(.val (.int .i64))),(47,(.val (.int .i64)))] 0 278,[(.box [(.nil 1),(.nil 1),(.nil 1),(.nil 1),(.nil 1),(.nil 1),(.val (.int .i64))]),(.box [(.ow 2),(.ow 3),(.ow 4),(.ow 5),(.ow 6),(.ow 7),(.val (.int .i64))]),(.row 1),(.row 1),(.row 1),(.row 1),(.row 1),(.row 1),(.pbox .any 3)],[]⟩
def Zos:SP:=⟨Zea .undef [(2,(.val (.rp 0))),(3,(.val (.rp 0))),(4,(.ref 0 0)),(6,(.ref 1 0)),(7,(.val .bool)),(9,(.ref 8 0)),(45,(.val .fs)),(46,(.val (.int .i64))),(47,(.val (.int .i64)))] 0 278,[(.box [(.nil 1),(.nil 1),(.nil 1),(.nil 1),(.nil 1),(.nil 1),(.val (.int .i64))]),(.box [(.ow 2),(.ow 3),(.ow 4),(.ow 5),(.ow 6),(.ow 7),(.val (.int .i64))]),(.row 1),(.row 1),(.row 1),(.row 1),(.row 1),(.row 1),(.pbox .any 3)],[]⟩
def Zgu:SP:=⟨Zea .undef [(2,(.val (.rp 0))),(3,(.val (.rp 0))),(4,(.ref 0 0)),(6,(.ref 1 0)),(7,(.val .bool)),(156,(.val .fs)),(157,(.val (.int .i64))),(158,(.val (.int .i64)))] 0 278,[(.box [(.nil 1),(.nil 1),(.nil 1),(.nil 1),(.nil 1),(.nil 1),(.val (.int .i64))]),(.box [(.ow 2),(.ow 3),(.ow 4),(.ow 5),(.ow 6),(.ow 7),(.val (.int .i64))]),(.row 1),(.row 1),(.row 1),(.row 1),(.row 1),(.row 1)],[]⟩
def Z7u:SP:=⟨Zea .undef [(2,(.val (.rp 0))),(3,(.val (.rp 0))),(4,(.ref 0 0)),(6,(.ref 1 0)),(7,(.val .bool)),(125,(.val .fs)),(126,(.val (.int .i64))),(127,(.val (.int .i64)))] 0 278,[(.box [(.nil 1),(.nil 1),(.nil 1),(.nil 1),(.nil 1),(.nil 1),(.val (.int .i64))]),(.box [(.ow 2),(.ow 3),(.ow 4),(.ow 5),(.ow 6),(.ow 7),(.val (.int .i64))]),(.row 1),(.row 1),(.row 1),(.row 1),(.row 1),(.row 1)],[]⟩
def ZEu:SP:=⟨Zea .undef [(2,(.val (.rp 0))),(3,(.val (.rp 0))),(4,(.ref 0 0)),(6,(.ref 1 0)),(7,(.val .bool)),(12,(.mp 8)),(104,(.ow 2)),(105,(.val (.int .i64))),(106,(.val (.int .i64)))] 0 278,[(.box [(.nil 1),(.nil 1),(.nil 1),(.nil 1),(.nil 1),(.nil 1),(.val (.int .i64))]),(.box [(.ow 2),(.ow 3),(.ow 4),(.ow 5),(.ow 6),(.ow 7),(.val (.int .i64))]),(.row 1),(.row 1),(.row 1),(.row 1),(.row 1),(.row 1),.map],[]⟩
def ZPw:SP:=⟨Zea .undef [(2,(.val (.rp 0))),(3,(.val (.rp 0))),(4,(.ref 0 0)),(6,(.ref 1 0)),(7,(.val .bool)),(45,(.val .fs)),(46,(.val (.int .i64))),(47,(.val (.int .i64)))] 0 278,[(.box [(.nil 1),(.nil 1),(.nil 1),(.nil 1),(.nil 1),(.nil 1),(.val (.int .i64))]),(.box [(.ow 2),(.ow 3),(.ow 4),(.ow 5),(.ow 6),(.ow 7),(.val (.int .i64))]),(.row 1),(.row 1),(.row 1),(.row 1),(.row 1),(.row 1)],[]⟩
def Z9A:Nat→Option SP
 | 74=>some ZGu
 | 69=>some ZUu
 | 13=>some Zyu
 | 24=>some ZZt
 | 62=>some ZRu
 | 57=>some ZMu
 | 51=>some ZNu
 | 40=>some Zgu
 | 32=>some Z7u
 | 21=>some ZEu
 | 6=>some ZPw
 | _=>none
def Zsz:Nat→Option SP
 | 17=>some ZYs
 | 37=>some ZCs
 | 38=>some ZWr
 | 13=>some Zvr
 | 10=>some ZTs
 | 12=>some ZVs
 | 11=>some Zos
 | _=>none
def ZNo (n:Nat)(ls:List Leaf)(R:Type)(k:Ex→St→Option R):Option R :=
 match ls with
 | [.cells a,.cells b,.bool d,.rows e,.int f,.int g,.rows i,.int j,.int l,.bool o,.int q,.int t,.rows u,.rows v,.rows z,.rows A,.rows B,.rows C]=>ZSk n a b d e f g i j l o q t u v z A B C (fun D E=>k .ret ⟨Zea .undef [(4,(TV.ref 0 0)),(5,(TV.val (PV.int .i64 D)))] 0 278,[(Ob.box [(TV.nil 1),(TV.nil 1),(TV.nil 1),(TV.nil 1),(TV.nil 1),(TV.nil 1),(TV.val (PV.int .i64 E))])],[]⟩)
   (fun F G H I J K L M N O Q U V W X Y Z=>k .normal ⟨Zea .undef [(2,(TV.val (PV.rp F 0))),(3,(TV.val (PV.rp G 0))),(4,(TV.ref 0 0)),(6,(TV.ref 1 0)),(7,(TV.val (PV.bool H))),(45,(TV.val (PV.fs I))),(46,(TV.val (PV.int .i64 J))),(47,(TV.val (PV.int .i64 K))),(84,(TV.val (PV.fs L))),(85,(TV.val (PV.int .i64 M))),(86,(TV.val (PV.int .i64 N)))] 0 278,[(Ob.box [(TV.nil 1),(TV.nil 1),(TV.nil 1),(TV.nil 1),(TV.nil 1),(TV.nil 1),(TV.val (PV.int .i64 O))]),(Ob.box [(TV.ow 2),(TV.ow 3),(TV.ow 4),(TV.ow 5),(TV.ow 6),(TV.ow 7),(TV.val (PV.int .i64 Q))]),(Ob.row U 1),(Ob.row V 1),(Ob.row W 1),(Ob.row X 1),(Ob.row Y 1),(Ob.row Z 1)],[]⟩)
 | _=>none
def Zci (n:Nat)(ls:List Leaf)(R:Type)(k:Ex→St→Option R):Option R :=
 match ls with
 | [.rows a,.rows b,.int d,.int e,.int f,.int g,.rows i,.rows j,.rows l,.rows o,.rows q,.rows t]=>ZEk n a b d e f g i j l o q t (fun u v z A B C D E F=>k (.exit 20) ⟨Zea .undef [(4,(TV.ref 0 0)),(6,(TV.ref 1 0)),(33,(TV.val (PV.fs u)))] 0 278,[(Ob.box [(TV.nil 1),(TV.nil 1),(TV.nil 1),(TV.nil 1),(TV.nil 1),(TV.nil 1),(TV.val (PV.int .i64 v))]),(Ob.box [(TV.ow 2),(TV.ow 3),(TV.ow 4),(TV.ow 5),(TV.ow 6),(TV.ow 7),(TV.val (PV.int .i64 z))]),(Ob.row A 1),(Ob.row B 1),(Ob.row C 1),(Ob.row D 1),(Ob.row E 1),(Ob.row F 1)],[]⟩)
 | _=>none
def Zdi (n:Nat)(ls:List Leaf)(R:Type)(k:Ex→St→Option R):Option R :=
 match ls with
 | [.rows a,.rows b,.int d,.int e,.int f,.int g,.rows i,.rows j,.rows l,.rows o,.rows q,.rows t,.kvs u]=>Zlk n a b d e f g i j l o q t u (fun v z A B C D E F G H=>k (.exit 18) ⟨Zea .undef [(4,(TV.ref 0 0)),(6,(TV.ref 1 0)),(28,(TV.mp 8)),(33,(TV.val (PV.fs v)))] 0 278,[(Ob.box [(TV.nil 1),(TV.nil 1),(TV.nil 1),(TV.nil 1),(TV.nil 1),(TV.nil 1),(TV.val (PV.int .i64 z))]),(Ob.box [(TV.ow 2),(TV.ow 3),(TV.ow 4),(TV.ow 5),(TV.ow 6),(TV.ow 7),(TV.val (PV.int .i64 A))]),(Ob.row B 1),(Ob.row C 1),(Ob.row D 1),(Ob.row E 1),(Ob.row F 1),(Ob.row G 1),(Ob.map H)],[]⟩)
 | _=>none
def Z5h (n:Nat)(ls:List Leaf)(R:Type)(k:Ex→St→Option R):Option R :=
 match ls with
 | [.cells a,.cells b,.bool d,.rows e,.int f,.int g,.rows i,.int j,.int l,.int o,.int q,.rows t,.rows u,.rows v,.rows z,.rows A,.rows B]=>Z0h n a b d e f g i j l o q t u v z A B (fun C D E F G H I J K L M N O Q=>k (.exit 2) ⟨Zea .undef [(2,(TV.val (PV.rp C 0))),(3,(TV.val (PV.rp D 0))),(4,(TV.ref 0 0)),(6,(TV.ref 1 0)),(7,(TV.val (PV.bool E))),(45,(TV.val (PV.fs F))),(46,(TV.val (PV.int .i64 G))),(47,(TV.val (PV.int .i64 H)))] 0 278,[(Ob.box [(TV.nil 1),(TV.nil 1),(TV.nil 1),(TV.nil 1),(TV.nil 1),(TV.nil 1),(TV.val (PV.int .i64 I))]),(Ob.box [(TV.ow 2),(TV.ow 3),(TV.ow 4),(TV.ow 5),(TV.ow 6),(TV.ow 7),(TV.val (PV.int .i64 J))]),(Ob.row K 1),(Ob.row L 1),(Ob.row M 1),(Ob.row N 1),(Ob.row O 1),(Ob.row Q 1)],[]⟩)
   (fun U V=>k .ret ⟨Zea .undef [(4,(TV.ref 0 0)),(5,(TV.val (PV.int .i64 U)))] 0 278,[(Ob.box [(TV.nil 1),(TV.nil 1),(TV.nil 1),(TV.nil 1),(TV.nil 1),(TV.nil 1),(TV.val (PV.int .i64 V))])],[]⟩)
 | _=>none
def ZVo (n:Nat)(ls:List Leaf)(R:Type)(k:Ex→St→Option R):Option R :=
 match ls with
 | [.cells a,.cells b,.bool d,.int e,.rows f,.int g,.int i,.bool j,.int l,.int o,.rows q,.rows t,.rows u,.rows v,.rows z,.rows A,.pv B]=>Zrk n a b d e f g i j l o q t u v z A B (fun C D=>k .ret ⟨Zea .undef [(4,(TV.ref 0 0)),(5,(TV.val (PV.int .i64 C)))] 0 278,[(Ob.box [(TV.nil 1),(TV.nil 1),(TV.nil 1),(TV.nil 1),(TV.nil 1),(TV.nil 1),(TV.val (PV.int .i64 D))])],[]⟩)
   (fun E F G H I J K L M N O Q U V W X=>k .normal ⟨Zea .undef [(2,(TV.val (PV.rp E 0))),(3,(TV.val (PV.rp F 0))),(4,(TV.ref 0 0)),(6,(TV.ref 1 0)),(7,(TV.val (PV.bool G))),(18,(TV.ref 8 0)),(19,(TV.val (PV.int .i64 H))),(125,(TV.val (PV.fs I))),(126,(TV.val (PV.int .i64 J))),(127,(TV.val (PV.int .i64 K)))] 0 278,[(Ob.box [(TV.nil 1),(TV.nil 1),(TV.nil 1),(TV.nil 1),(TV.nil 1),(TV.nil 1),(TV.val (PV.int .i64 L))]),(Ob.box [(TV.ow 2),(TV.ow 3),(TV.ow 4),(TV.ow 5),(TV.ow 6),(TV.ow 7),(TV.val (PV.int .i64 M))]),(Ob.row N 1),(Ob.row O 1),(Ob.row Q 1),(Ob.row U 1),(Ob.row V 1),(Ob.row W 1),(Ob.pbox X 3)],[]⟩)
 | _=>none
def Zii (n:Nat)(ls:List Leaf)(R:Type)(k:Ex→St→Option R):Option R :=
 match ls with
 | [.cells a,.cells b,.bool d,.int e,.int f,.rows g,.int i,.int j,.int l,.int o,.rows q,.rows t,.rows u,.rows v,.rows z,.rows A,.kvs B]=>ZWk n a b d e f g i j l o q t u v z A B (fun C D=>k .ret ⟨Zea .undef [(4,(TV.ref 0 0)),(5,(TV.val (PV.int .i64 C)))] 0 278,[(Ob.box [(TV.nil 1),(TV.nil 1),(TV.nil 1),(TV.nil 1),(TV.nil 1),(TV.nil 1),(TV.val (PV.int .i64 D))])],[]⟩)
   (fun E F G H I J K L M N O Q U V=>k (.exit 6) ⟨Zea .undef [(2,(TV.val (PV.rp E 0))),(3,(TV.val (PV.rp F 0))),(4,(TV.ref 0 0)),(6,(TV.ref 1 0)),(7,(TV.val (PV.bool G))),(12,(TV.mp 8)),(104,(TV.ow 2)),(105,(TV.val (PV.int .i64 H))),(106,(TV.val (PV.int .i64 I)))] 0 278,[(Ob.box [(TV.nil 1),(TV.nil 1),(TV.nil 1),(TV.nil 1),(TV.nil 1),(TV.nil 1),(TV.val (PV.int .i64 J))]),(Ob.box [(TV.ow 2),(TV.ow 3),(TV.ow 4),(TV.ow 5),(TV.ow 6),(TV.ow 7),(TV.val (PV.int .i64 K))]),(Ob.row L 1),(Ob.row M 1),(Ob.row N 1),(Ob.row O 1),(Ob.row Q 1),(Ob.row U 1),(Ob.map V)],[]⟩)
 | _=>none
def Z7h (n:Nat)(ls:List Leaf)(R:Type)(k:Ex→St→Option R):Option R :=
 match ls with
 | [.rows a,.int b,.int d,.int e,.int f,.rows g,.rows i,.rows j,.rows l,.rows o,.rows q,.rows t,.rows u,.rows v,.kvs z]=>Z7k n a b d e f g i j l o q t u v z (fun A B C D E F G H I J K L=>k (.exit 16) ⟨Zea .undef [(4,(TV.ref 0 0)),(6,(TV.ref 1 0)),(25,(TV.ref 8 0)),(28,(TV.mp 9))] 0 278,[(Ob.box [(TV.nil 1),(TV.nil 1),(TV.nil 1),(TV.nil 1),(TV.nil 1),(TV.nil 1),(TV.val (PV.int .i64 A))]),(Ob.box [(TV.ow 2),(TV.ow 3),(TV.ow 4),(TV.ow 5),(TV.ow 6),(TV.ow 7),(TV.val (PV.int .i64 B))]),(Ob.row C 1),(Ob.row D 1),(Ob.row E 1),(Ob.row F 1),(Ob.row G 1),(Ob.row H 1),(Ob.pbox (PV.agg [.fs I,.fs J,.fs K]) 3),(Ob.map L)],[]⟩)
 | _=>none
def Z5o (n:Nat)(ls:List Leaf)(R:Type)(k:Ex→St→Option R):Option R :=
 match ls with
 | [.cells a,.cells b,.bool d,.int e,.rows f,.int g,.int i,.int j,.int l,.rows o,.rows q,.rows t,.rows u,.rows v,.rows z,.pv A]=>ZMk n a b d e f g i j l o q t u v z A (fun B C D E F G H I J K L M N O=>k .normal ⟨Zea .undef [(2,(TV.val (PV.rp B 0))),(3,(TV.val (PV.rp C 0))),(4,(TV.ref 0 0)),(6,(TV.ref 1 0)),(7,(TV.val (PV.bool D))),(125,(TV.val (PV.fs E))),(126,(TV.val (PV.int .i64 F))),(127,(TV.val (PV.int .i64 G)))] 0 278,[(Ob.box [(TV.nil 1),(TV.nil 1),(TV.nil 1),(TV.nil 1),(TV.nil 1),(TV.nil 1),(TV.val (PV.int .i64 H))]),(Ob.box [(TV.ow 2),(TV.ow 3),(TV.ow 4),(TV.ow 5),(TV.ow 6),(TV.ow 7),(TV.val (PV.int .i64 I))]),(Ob.row J 1),(Ob.row K 1),(Ob.row L 1),(Ob.row M 1),(Ob.row N 1),(Ob.row O 1)],[]⟩)
 | _=>none
def Z6h (n:Nat)(ls:List Leaf)(R:Type)(k:Ex→St→Option R):Option R :=
 match ls with
 | [.rows a,.int b,.int d,.int e,.int f,.rows g,.rows i,.rows j,.rows l,.rows o,.rows q,.rows t,.rows u,.rows v,.kvs z]=>ZLa n a b d e f g i j l o q t u v z (fun A B C D E F G H I J K L=>k (.exit 14) ⟨Zea .undef [(4,(TV.ref 0 0)),(6,(TV.ref 1 0)),(25,(TV.ref 8 0)),(28,(TV.mp 9))] 0 278,[(Ob.box [(TV.nil 1),(TV.nil 1),(TV.nil 1),(TV.nil 1),(TV.nil 1),(TV.nil 1),(TV.val (PV.int .i64 A))]),(Ob.box [(TV.ow 2),(TV.ow 3),(TV.ow 4),(TV.ow 5),(TV.ow 6),(TV.ow 7),(TV.val (PV.int .i64 B))]),(Ob.row C 1),(Ob.row D 1),(Ob.row E 1),(Ob.row F 1),(Ob.row G 1),(Ob.row H 1),(Ob.pbox (PV.agg [.fs I,.fs J,.fs K]) 3),(Ob.map L)],[]⟩)
 | _=>none
def Z6o (n:Nat)(ls:List Leaf)(R:Type)(k:Ex→St→Option R):Option R :=
 match ls with
 | [.cells a,.cells b,.bool d,.rows e,.int f,.int g,.int i,.int j,.rows l,.rows o,.rows q,.rows t,.rows u,.rows v,.pv z]=>Z6b n a b d e f g i j l o q t u v z (fun A B C D E F G H I J K L M N=>k .normal ⟨Zea .undef [(2,(TV.val (PV.rp A 0))),(3,(TV.val (PV.rp B 0))),(4,(TV.ref 0 0)),(6,(TV.ref 1 0)),(7,(TV.val (PV.bool C))),(45,(TV.val (PV.fs D))),(46,(TV.val (PV.int .i64 E))),(47,(TV.val (PV.int .i64 F)))] 0 278,[(Ob.box [(TV.nil 1),(TV.nil 1),(TV.nil 1),(TV.nil 1),(TV.nil 1),(TV.nil 1),(TV.val (PV.int .i64 G))]),(Ob.box [(TV.ow 2),(TV.ow 3),(TV.ow 4),(TV.ow 5),(TV.ow 6),(TV.ow 7),(TV.val (PV.int .i64 H))]),(Ob.row I 1),(Ob.row J 1),(Ob.row K 1),(Ob.row L 1),(Ob.row M 1),(Ob.row N 1)],[]⟩)
   (fun O Q=>k .ret ⟨Zea .undef [(4,(TV.ref 0 0)),(5,(TV.val (PV.int .i64 O)))] 0 278,[(Ob.box [(TV.nil 1),(TV.nil 1),(TV.nil 1),(TV.nil 1),(TV.nil 1),(TV.nil 1),(TV.val (PV.int .i64 Q))])],[]⟩)
 | _=>none
def Z4h (n:Nat)(ls:List Leaf)(R:Type)(k:Ex→St→Option R):Option R :=
 match ls with
 | [.rows a,.int b,.int d,.int e,.int f,.rows g,.rows i,.rows j,.rows l,.rows o,.rows q,.rows t,.rows u,.rows v]=>ZKk n a b d e f g i j l o q t u v (fun z A B C D E F G H I J=>k (.exit 12) ⟨Zea .undef [(4,(TV.ref 0 0)),(6,(TV.ref 1 0)),(25,(TV.ref 8 0))] 0 278,[(Ob.box [(TV.nil 1),(TV.nil 1),(TV.nil 1),(TV.nil 1),(TV.nil 1),(TV.nil 1),(TV.val (PV.int .i64 z))]),(Ob.box [(TV.ow 2),(TV.ow 3),(TV.ow 4),(TV.ow 5),(TV.ow 6),(TV.ow 7),(TV.val (PV.int .i64 A))]),(Ob.row B 1),(Ob.row C 1),(Ob.row D 1),(Ob.row E 1),(Ob.row F 1),(Ob.row G 1),(Ob.pbox (PV.agg [.fs H,.fs I,.fs J]) 3)],[]⟩)
 | _=>none
def ZZo (n:Nat)(ls:List Leaf)(R:Type)(k:Ex→St→Option R):Option R :=
 match ls with
 | [.cells a,.cells b,.bool d,.rows e,.int f,.int g,.bool i,.int j,.int l,.rows o,.rows q,.rows t,.rows u,.rows v,.rows z,.pv A]=>Z5k n a b d e f g i j l o q t u v z A (fun B C=>k .ret ⟨Zea .undef [(4,(TV.ref 0 0)),(5,(TV.val (PV.int .i64 B)))] 0 278,[(Ob.box [(TV.nil 1),(TV.nil 1),(TV.nil 1),(TV.nil 1),(TV.nil 1),(TV.nil 1),(TV.val (PV.int .i64 C))])],[]⟩)
   (fun D E F G H I J K L M N O Q U V=>k .normal ⟨Zea .undef [(2,(TV.val (PV.rp D 0))),(3,(TV.val (PV.rp E 0))),(4,(TV.ref 0 0)),(6,(TV.ref 1 0)),(7,(TV.val (PV.bool F))),(9,(TV.ref 8 0)),(45,(TV.val (PV.fs G))),(46,(TV.val (PV.int .i64 H))),(47,(TV.val (PV.int .i64 I)))] 0 278,[(Ob.box [(TV.nil 1),(TV.nil 1),(TV.nil 1),(TV.nil 1),(TV.nil 1),(TV.nil 1),(TV.val (PV.int .i64 J))]),(Ob.box [(TV.ow 2),(TV.ow 3),(TV.ow 4),(TV.ow 5),(TV.ow 6),(TV.ow 7),(TV.val (PV.int .i64 K))]),(Ob.row L 1),(Ob.row M 1),(Ob.row N 1),(Ob.row O 1),(Ob.row Q 1),(Ob.row U 1),(Ob.pbox V 3)],[]⟩)
 | _=>none
def ZTo (n:Nat)(ls:List Leaf)(R:Type)(k:Ex→St→Option R):Option R :=
 match ls with
 | [.cells a,.cells b,.bool d,.rows e,.int f,.int g,.int i,.int j,.rows l,.rows o,.rows q,.rows t,.rows u,.rows v,.pv z]=>Zli n a b d e f g i j l o q t u v z (fun A B C D E F G H I J K L M N=>k .normal ⟨Zea .undef [(2,(TV.val (PV.rp A 0))),(3,(TV.val (PV.rp B 0))),(4,(TV.ref 0 0)),(6,(TV.ref 1 0)),(7,(TV.val (PV.bool C))),(45,(TV.val (PV.fs D))),(46,(TV.val (PV.int .i64 E))),(47,(TV.val (PV.int .i64 F)))] 0 278,[(Ob.box [(TV.nil 1),(TV.nil 1),(TV.nil 1),(TV.nil 1),(TV.nil 1),(TV.nil 1),(TV.val (PV.int .i64 G))]),(Ob.box [(TV.ow 2),(TV.ow 3),(TV.ow 4),(TV.ow 5),(TV.ow 6),(TV.ow 7),(TV.val (PV.int .i64 H))]),(Ob.row I 1),(Ob.row J 1),(Ob.row K 1),(Ob.row L 1),(Ob.row M 1),(Ob.row N 1)],[]⟩)
   (fun O Q=>k .ret ⟨Zea .undef [(4,(TV.ref 0 0)),(5,(TV.val (PV.int .i64 O)))] 0 278,[(Ob.box [(TV.nil 1),(TV.nil 1),(TV.nil 1),(TV.nil 1),(TV.nil 1),(TV.nil 1),(TV.val (PV.int .i64 Q))])],[]⟩)
 | _=>none
def ZXo (n:Nat)(ls:List Leaf)(R:Type)(k:Ex→St→Option R):Option R :=
 match ls with
 | [.cells a,.cells b,.bool d,.rows e,.int f,.int g,.int i,.int j,.rows l,.rows o,.rows q,.rows t,.rows u,.rows v,.pv z]=>Znk n a b d e f g i j l o q t u v z (fun A B C D E F G H I J K L M N=>k .normal ⟨Zea .undef [(2,(TV.val (PV.rp A 0))),(3,(TV.val (PV.rp B 0))),(4,(TV.ref 0 0)),(6,(TV.ref 1 0)),(7,(TV.val (PV.bool C))),(45,(TV.val (PV.fs D))),(46,(TV.val (PV.int .i64 E))),(47,(TV.val (PV.int .i64 F)))] 0 278,[(Ob.box [(TV.nil 1),(TV.nil 1),(TV.nil 1),(TV.nil 1),(TV.nil 1),(TV.nil 1),(TV.val (PV.int .i64 G))]),(Ob.box [(TV.ow 2),(TV.ow 3),(TV.ow 4),(TV.ow 5),(TV.ow 6),(TV.ow 7),(TV.val (PV.int .i64 H))]),(Ob.row I 1),(Ob.row J 1),(Ob.row K 1),(Ob.row L 1),(Ob.row M 1),(Ob.row N 1)],[]⟩)
   (fun O Q=>k .ret ⟨Zea .undef [(4,(TV.ref 0 0)),(5,(TV.val (PV.int .i64 O)))] 0 278,[(Ob.box [(TV.nil 1),(TV.nil 1),(TV.nil 1),(TV.nil 1),(TV.nil 1),(TV.nil 1),(TV.val (PV.int .i64 Q))])],[]⟩)
 | _=>none
def Z8h (n:Nat)(ls:List Leaf)(R:Type)(k:Ex→St→Option R):Option R :=
 match ls with
 | [.cells a,.cells b,.bool d,.rows e,.int f,.int g,.int i,.int j,.rows l,.rows o,.rows q,.rows t,.rows u,.rows v]=>Zhi n a b d e f g i j l o q t u v (fun z A=>k .ret ⟨Zea .undef [(4,(TV.ref 0 0)),(5,(TV.val (PV.int .i64 z)))] 0 278,[(Ob.box [(TV.nil 1),(TV.nil 1),(TV.nil 1),(TV.nil 1),(TV.nil 1),(TV.nil 1),(TV.val (PV.int .i64 A))])],[]⟩)
   (fun B C D E F G H I J K=>k (.exit 10) ⟨Zea .undef [(3,(TV.val (PV.rp B 0))),(4,(TV.ref 0 0)),(6,(TV.ref 1 0)),(7,(TV.val (PV.bool C)))] 0 278,[(Ob.box [(TV.nil 1),(TV.nil 1),(TV.nil 1),(TV.nil 1),(TV.nil 1),(TV.nil 1),(TV.val (PV.int .i64 D))]),(Ob.box [(TV.ow 2),(TV.ow 3),(TV.ow 4),(TV.ow 5),(TV.ow 6),(TV.ow 7),(TV.val (PV.int .i64 E))]),(Ob.row F 1),(Ob.row G 1),(Ob.row H 1),(Ob.row I 1),(Ob.row J 1),(Ob.row K 1)],[]⟩)
 | _=>none
def Zbi (n:Nat)(ls:List Leaf)(R:Type)(k:Ex→St→Option R):Option R :=
 match ls with
 | [.cells a,.cells b,.bool d,.rows e,.int f,.int g,.int i,.int j,.rows l,.rows o,.rows q,.rows t,.rows u,.rows v]=>Zai n a b d e f g i j l o q t u v (fun z A B C D E F G H I J=>k (.exit 8) ⟨Zea .undef [(2,(TV.val (PV.rp z 0))),(3,(TV.val (PV.rp A 0))),(4,(TV.ref 0 0)),(6,(TV.ref 1 0)),(7,(TV.val (PV.bool B)))] 0 278,[(Ob.box [(TV.nil 1),(TV.nil 1),(TV.nil 1),(TV.nil 1),(TV.nil 1),(TV.nil 1),(TV.val (PV.int .i64 C))]),(Ob.box [(TV.ow 2),(TV.ow 3),(TV.ow 4),(TV.ow 5),(TV.ow 6),(TV.ow 7),(TV.val (PV.int .i64 D))]),(Ob.row E 1),(Ob.row F 1),(Ob.row G 1),(Ob.row H 1),(Ob.row I 1),(Ob.row J 1)],[]⟩)
   (fun K L=>k .ret ⟨Zea .undef [(4,(TV.ref 0 0)),(5,(TV.val (PV.int .i64 K)))] 0 278,[(Ob.box [(TV.nil 1),(TV.nil 1),(TV.nil 1),(TV.nil 1),(TV.nil 1),(TV.nil 1),(TV.val (PV.int .i64 L))])],[]⟩)
 | _=>none
def Zfi (n:Nat)(ls:List Leaf)(R:Type)(k:Ex→St→Option R):Option R :=
 match ls with
 | [.cells a,.cells b,.bool d,.int e,.int f,.int g,.int i,.rows j,.rows l,.rows o,.rows q,.rows t,.rows u,.kvs v]=>Zmk n a b d e f g i j l o q t u v (fun z A B C D E F G H I J=>k (.exit 4) ⟨Zea .undef [(2,(TV.val (PV.rp z 0))),(3,(TV.val (PV.rp A 0))),(4,(TV.ref 0 0)),(6,(TV.ref 1 0)),(7,(TV.val (PV.bool B)))] 0 278,[(Ob.box [(TV.nil 1),(TV.nil 1),(TV.nil 1),(TV.nil 1),(TV.nil 1),(TV.nil 1),(TV.val (PV.int .i64 C))]),(Ob.box [(TV.ow 2),(TV.ow 3),(TV.ow 4),(TV.ow 5),(TV.ow 6),(TV.ow 7),(TV.val (PV.int .i64 D))]),(Ob.row E 1),(Ob.row F 1),(Ob.row G 1),(Ob.row H 1),(Ob.row I 1),(Ob.row J 1)],[]⟩)
   (fun K L=>k .ret ⟨Zea .undef [(4,(TV.ref 0 0)),(5,(TV.val (PV.int .i64 K)))] 0 278,[(Ob.box [(TV.nil 1),(TV.nil 1),(TV.nil 1),(TV.nil 1),(TV.nil 1),(TV.nil 1),(TV.val (PV.int .i64 L))])],[]⟩)
 | _=>none
def ZSj (n:Nat)(ls:List Leaf)(R:Type)(k:Ex→St→Option R):Option R :=
 match ls with
 | [.cells a,.cells b,.bool d,.rows e,.int f,.int g,.int i,.int j,.rows l,.rows o,.rows q,.rows t,.rows u,.rows v]=>ZAj n a b d e f g i j l o q t u v (fun z A B C D E F G H I J=>k (.exit 0) ⟨Zea .undef [(2,(TV.val (PV.rp z 0))),(3,(TV.val (PV.rp A 0))),(4,(TV.ref 0 0)),(6,(TV.ref 1 0)),(7,(TV.val (PV.bool B)))] 0 278,[(Ob.box [(TV.nil 1),(TV.nil 1),(TV.nil 1),(TV.nil 1),(TV.nil 1),(TV.nil 1),(TV.val (PV.int .i64 C))]),(Ob.box [(TV.ow 2),(TV.ow 3),(TV.ow 4),(TV.ow 5),(TV.ow 6),(TV.ow 7),(TV.val (PV.int .i64 D))]),(Ob.row E 1),(Ob.row F 1),(Ob.row G 1),(Ob.row H 1),(Ob.row I 1),(Ob.row J 1)],[]⟩)
   (fun K L=>k .ret ⟨Zea .undef [(4,(TV.ref 0 0)),(5,(TV.val (PV.int .i64 K)))] 0 278,[(Ob.box [(TV.nil 1),(TV.nil 1),(TV.nil 1),(TV.nil 1),(TV.nil 1),(TV.nil 1),(TV.val (PV.int .i64 L))])],[]⟩)
 | _=>none
def ZIG (n key:Nat) (ls:List Leaf) (R:Type) (k:Ex→St→Option R):Option R :=
 match key with
 | 74=>Zci n ls R k
 | 69=>Zdi n ls R k
 | 13=>Z5h n ls R k
 | 24=>Zii n ls R k
 | 62=>Z7h n ls R k
 | 57=>Z6h n ls R k
 | 51=>Z4h n ls R k
 | 40=>Z8h n ls R k
 | 32=>Zbi n ls R k
 | 21=>Zfi n ls R k
 | 6=>ZSj n ls R k
 | _=>none
def ZBG (n key:Nat) (ls:List Leaf) (R:Type) (k:Ex→St→Option R):Option R :=
 match key with
 | 17=>ZNo n ls R k
 | 37=>ZVo n ls R k
 | 38=>Z5o n ls R k
 | 13=>Z6o n ls R k
 | 10=>ZZo n ls R k
 | 12=>ZTo n ls R k
 | 11=>ZXo n ls R k
 | _=>none
def Zxw:Code→Bool:=onKeys [11,10,12,13,17,38,37]
def Zjb:Nat→Loops:=patL (Zsa ZUa) Z9A ZIG (ZCa ZUa) Zxw Zsz ZBG
theorem ZMH (n:Nat)(a b:Cs)(d:Bool)(e:Rs)(f g i j:Int)(l o q t u v:Rs)  (R:Type) (k:Ex→St→Option R) :
  Zza T G0 (Zja Zab) (Zsa ZUa) (Zjb n) (Zia [1,1,1,1,0,1,0,0] (Zca Tryz.f18)) (Zoa ZPw [.cells a,.cells b,.bool d,.rows e,.int f,.int g,.int i,.int j,.rows l,.rows o,.rows q,.rows t,.rows u,.rows v]) R k=ZSj (n + 1) [.cells a,.cells b,.bool d,.rows e,.int f,.int g,.int i,.int j,.rows l,.rows o,.rows q,.rows t,.rows u,.rows v] R k:=by kernel_rfl
theorem ZyF (n:Nat)(a b:Cs)(d:Bool)(e:Rs)(f g:Int)(i:Rs)(j l o q:Int)(t u v z A B:Rs)  (R:Type) (k:Ex→St→Option R) :
  Zza T G0 (Zja Zab) (Zsa ZUa) (Zjb n) (Zia [1,1,1,1,0,1,0,0,1,1,0,0,1,1,1,1,1,0,0] (Zca Tryz.f18)) (Zoa Zyu [.cells a,.cells b,.bool d,.rows e,.int f,.int g,.rows i,.int j,.int l,.int o,.int q,.rows t,.rows u,.rows v,.rows z,.rows A,.rows B]) R k=Z5h (n + 1) [.cells a,.cells b,.bool d,.rows e,.int f,.int g,.rows i,.int j,.int l,.int o,.int q,.rows t,.rows u,.rows v,.rows z,.rows A,.rows B] R k:=by kernel_rfl
theorem ZUF (n:Nat)(a b:Cs)(d:Bool)(e f g i:Int)(j l o q t u:Rs)(v:Kv)  (R:Type) (k:Ex→St→Option R) :
  Zza T G0 (Zja Zab) (Zsa ZUa) (Zjb n) (Zia [1,1,1,1,1,1,0,1,0,0] (Zca Tryz.f18)) (Zoa ZEu [.cells a,.cells b,.bool d,.int e,.int f,.int g,.int i,.rows j,.rows l,.rows o,.rows q,.rows t,.rows u,.kvs v]) R k=Zfi (n + 1) [.cells a,.cells b,.bool d,.int e,.int f,.int g,.int i,.rows j,.rows l,.rows o,.rows q,.rows t,.rows u,.kvs v] R k:=by kernel_rfl
theorem ZqF (n:Nat)(a b:Cs)(d:Bool)(e f:Int)(g:Rs)(i j l o:Int)(q t u v z A:Rs)(B:Kv)  (R:Type) (k:Ex→St→Option R) :
  Zza T G0 (Zja Zab) (Zsa ZUa) (Zjb n) (Zia [1,1,1,1,1,1,0,1,0,0,1,1,0,0,1,1,0,0] (Zca Tryz.f18)) (Zoa ZZt [.cells a,.cells b,.bool d,.int e,.int f,.rows g,.int i,.int j,.int l,.int o,.rows q,.rows t,.rows u,.rows v,.rows z,.rows A,.kvs B]) R k=Zii (n + 1) [.cells a,.cells b,.bool d,.int e,.int f,.rows g,.int i,.int j,.int l,.int o,.rows q,.rows t,.rows u,.rows v,.rows z,.rows A,.kvs B] R k:=by kernel_rfl
theorem Z9E (n:Nat)(a b:Cs)(d:Bool)(e:Rs)(f g i j:Int)(l o q t u v:Rs)  (R:Type) (k:Ex→St→Option R) :
  Zza T G0 (Zja Zab) (Zsa ZUa) (Zjb n) (Zia [1,1,1,1,1,1,1,0,1,0,0] (Zca Tryz.f18)) (Zoa Z7u [.cells a,.cells b,.bool d,.rows e,.int f,.int g,.int i,.int j,.rows l,.rows o,.rows q,.rows t,.rows u,.rows v]) R k=Zbi (n + 1) [.cells a,.cells b,.bool d,.rows e,.int f,.int g,.int i,.int j,.rows l,.rows o,.rows q,.rows t,.rows u,.rows v] R k:=by kernel_rfl
theorem ZxF (n:Nat)(a b:Cs)(d:Bool)(e:Rs)(f g i j:Int)(l o q t u v:Rs)  (R:Type) (k:Ex→St→Option R) :
  Zza T G0 (Zja Zab) (Zsa ZUa) (Zjb n) (Zia [1,1,1,1,1,1,1,1,0,1,0,0] (Zca Tryz.f18)) (Zoa Zgu [.cells a,.cells b,.bool d,.rows e,.int f,.int g,.int i,.int j,.rows l,.rows o,.rows q,.rows t,.rows u,.rows v]) R k=Z8h (n + 1) [.cells a,.cells b,.bool d,.rows e,.int f,.int g,.int i,.int j,.rows l,.rows o,.rows q,.rows t,.rows u,.rows v] R k:=by kernel_rfl
theorem ZdG (n:Nat)(a:Rs)(b d e f:Int)(g i j l o q t u v:Rs)  (R:Type) (k:Ex→St→Option R) :
  Zza T G0 (Zja Zab) (Zsa ZUa) (Zjb n) (Zia [1,1,1,1,1,1,1,1,1,1,1,0,1,0,0] (Zca Tryz.f18)) (Zoa ZNu [.rows a,.int b,.int d,.int e,.int f,.rows g,.rows i,.rows j,.rows l,.rows o,.rows q,.rows t,.rows u,.rows v]) R k=Z4h (n + 1) [.rows a,.int b,.int d,.int e,.int f,.rows g,.rows i,.rows j,.rows l,.rows o,.rows q,.rows t,.rows u,.rows v] R k:=by kernel_rfl
theorem ZiG (n:Nat)(a:Rs)(b d e f:Int)(g i j l o q t u v:Rs)(z:Kv)  (R:Type) (k:Ex→St→Option R) :
  Zza T G0 (Zja Zab) (Zsa ZUa) (Zjb n) (Zia [1,1,1,1,1,1,1,1,1,1,1,1,1,0,1,0,0] (Zca Tryz.f18)) (Zoa ZMu [.rows a,.int b,.int d,.int e,.int f,.rows g,.rows i,.rows j,.rows l,.rows o,.rows q,.rows t,.rows u,.rows v,.kvs z]) R k=Z6h (n + 1) [.rows a,.int b,.int d,.int e,.int f,.rows g,.rows i,.rows j,.rows l,.rows o,.rows q,.rows t,.rows u,.rows v,.kvs z] R k:=by kernel_rfl
theorem Z0F (n:Nat)(a:Rs)(b d e f:Int)(g i j l o q t u v:Rs)(z:Kv)  (R:Type) (k:Ex→St→Option R) :
  Zza T G0 (Zja Zab) (Zsa ZUa) (Zjb n) (Zia [1,1,1,1,1,1,1,1,1,1,1,1,1,1,0,1,0,0] (Zca Tryz.f18)) (Zoa ZRu [.rows a,.int b,.int d,.int e,.int f,.rows g,.rows i,.rows j,.rows l,.rows o,.rows q,.rows t,.rows u,.rows v,.kvs z]) R k=Z7h (n + 1) [.rows a,.int b,.int d,.int e,.int f,.rows g,.rows i,.rows j,.rows l,.rows o,.rows q,.rows t,.rows u,.rows v,.kvs z] R k:=by kernel_rfl
theorem ZeG (n:Nat)(a b:Rs)(d e f g:Int)(i j l o q t:Rs)(u:Kv)  (R:Type) (k:Ex→St→Option R) :
  Zza T G0 (Zja Zab) (Zsa ZUa) (Zjb n) (Zia [1,1,1,1,1,1,1,1,1,1,1,1,1,1,1,1,0,1,0,0] (Zca Tryz.f18)) (Zoa ZUu [.rows a,.rows b,.int d,.int e,.int f,.int g,.rows i,.rows j,.rows l,.rows o,.rows q,.rows t,.kvs u]) R k=Zdi (n + 1) [.rows a,.rows b,.int d,.int e,.int f,.int g,.rows i,.rows j,.rows l,.rows o,.rows q,.rows t,.kvs u] R k:=by kernel_rfl
theorem ZlG (n:Nat)(a b:Rs)(d e f g:Int)(i j l o q t:Rs)  (R:Type) (k:Ex→St→Option R) :
  Zza T G0 (Zja Zab) (Zsa ZUa) (Zjb n) (Zia [1,1,1,1,1,1,1,1,1,1,1,1,1,1,1,1,1,0,1,0,0] (Zca Tryz.f18)) (Zoa ZGu [.rows a,.rows b,.int d,.int e,.int f,.int g,.rows i,.rows j,.rows l,.rows o,.rows q,.rows t]) R k=Zci (n + 1) [.rows a,.rows b,.int d,.int e,.int f,.int g,.rows i,.rows j,.rows l,.rows o,.rows q,.rows t] R k:=by kernel_rfl
theorem ZXE (n:Nat)(a b:Cs)(d:Bool)(e:Rs)(f g i j:Int)(l o q t u v:Rs)(z:PV)  (R:Type) (k:Ex→St→Option R) :
  Z0a T G0 (Zja Zab) (ZCa ZUa) (Zjb n) (Zia [1,1,1,1,0,1,0,0,1,1,0,0,1,1] (Zca Tryz.f18)) (Zoa Zos [.cells a,.cells b,.bool d,.rows e,.int f,.int g,.int i,.int j,.rows l,.rows o,.rows q,.rows t,.rows u,.rows v,.pv z]) R k=ZXo n [.cells a,.cells b,.bool d,.rows e,.int f,.int g,.int i,.int j,.rows l,.rows o,.rows q,.rows t,.rows u,.rows v,.pv z] R k:=by kernel_rfl
theorem ZLD (n:Nat)(a b:Cs)(d:Bool)(e:Rs)(f g:Int)(i:Bool)(j l:Int)(o q t u v z:Rs)(A:PV)  (R:Type) (k:Ex→St→Option R) :
  Z0a T G0 (Zja Zab) (ZCa ZUa) (Zjb n) (Zia [1,1,1,1,0,1,0,0,1,1,0,0,1,0,1] (Zca Tryz.f18)) (Zoa ZTs [.cells a,.cells b,.bool d,.rows e,.int f,.int g,.bool i,.int j,.int l,.rows o,.rows q,.rows t,.rows u,.rows v,.rows z,.pv A]) R k=ZZo n [.cells a,.cells b,.bool d,.rows e,.int f,.int g,.bool i,.int j,.int l,.rows o,.rows q,.rows t,.rows u,.rows v,.rows z,.pv A] R k:=by kernel_rfl
theorem ZxD (n:Nat)(a b:Cs)(d:Bool)(e:Rs)(f g i j:Int)(l o q t u v:Rs)(z:PV)  (R:Type) (k:Ex→St→Option R) :
  Z0a T G0 (Zja Zab) (ZCa ZUa) (Zjb n) (Zia [1,1,1,1,0,1,0,0,1,1,0,0,1,1,1] (Zca Tryz.f18)) (Zoa ZVs [.cells a,.cells b,.bool d,.rows e,.int f,.int g,.int i,.int j,.rows l,.rows o,.rows q,.rows t,.rows u,.rows v,.pv z]) R k=ZTo n [.cells a,.cells b,.bool d,.rows e,.int f,.int g,.int i,.int j,.rows l,.rows o,.rows q,.rows t,.rows u,.rows v,.pv z] R k:=by kernel_rfl
theorem ZtE (n:Nat)(a b:Cs)(d:Bool)(e:Rs)(f g i j:Int)(l o q t u v:Rs)(z:PV)  (R:Type) (k:Ex→St→Option R) :
  Z0a T G0 (Zja Zab) (ZCa ZUa) (Zjb n) (Zia [1,1,1,1,0,1,0,0,1,1,0,0,1,1,1,1] (Zca Tryz.f18)) (Zoa Zvr [.cells a,.cells b,.bool d,.rows e,.int f,.int g,.int i,.int j,.rows l,.rows o,.rows q,.rows t,.rows u,.rows v,.pv z]) R k=Z6o n [.cells a,.cells b,.bool d,.rows e,.int f,.int g,.int i,.int j,.rows l,.rows o,.rows q,.rows t,.rows u,.rows v,.pv z] R k:=by kernel_rfl
theorem ZBE (n:Nat)(a b:Cs)(d:Bool)(e:Rs)(f g:Int)(i:Rs)(j l:Int)(o:Bool)(q t:Int)(u v z A B C:Rs)  (R:Type) (k:Ex→St→Option R) :
  Z0a T G0 (Zja Zab) (ZCa ZUa) (Zjb n) (Zia [1,1,1,1,0,1,0,0,1,1,0,0,1,1,1,1,1,0,0,1,1,0,0,1,1] (Zca Tryz.f18)) (Zoa ZYs [.cells a,.cells b,.bool d,.rows e,.int f,.int g,.rows i,.int j,.int l,.bool o,.int q,.int t,.rows u,.rows v,.rows z,.rows A,.rows B,.rows C]) R k=ZNo n [.cells a,.cells b,.bool d,.rows e,.int f,.int g,.rows i,.int j,.int l,.bool o,.int q,.int t,.rows u,.rows v,.rows z,.rows A,.rows B,.rows C] R k:=by kernel_rfl
theorem Z6D (n:Nat)(a b:Cs)(d:Bool)(e:Int)(f:Rs)(g i j l:Int)(o q t u v z:Rs)(A:PV)  (R:Type) (k:Ex→St→Option R) :
  Z0a T G0 (Zja Zab) (ZCa ZUa) (Zjb n) (Zia [1,1,1,1,1,1,1,0,1,0,0,1,1,0,0,1,1,1] (Zca Tryz.f18)) (Zoa ZWr [.cells a,.cells b,.bool d,.int e,.rows f,.int g,.int i,.int j,.int l,.rows o,.rows q,.rows t,.rows u,.rows v,.rows z,.pv A]) R k=Z5o n [.cells a,.cells b,.bool d,.int e,.rows f,.int g,.int i,.int j,.int l,.rows o,.rows q,.rows t,.rows u,.rows v,.rows z,.pv A] R k:=by kernel_rfl
theorem Z3E (n:Nat)(a b:Cs)(d:Bool)(e:Int)(f:Rs)(g i:Int)(j:Bool)(l o:Int)(q t u v z A:Rs)(B:PV)  (R:Type) (k:Ex→St→Option R) :
  Z0a T G0 (Zja Zab) (ZCa ZUa) (Zjb n) (Zia [1,1,1,1,1,1,1,0,1,0,0,1,1,0,0,1,1,0,1] (Zca Tryz.f18)) (Zoa ZCs [.cells a,.cells b,.bool d,.int e,.rows f,.int g,.int i,.bool j,.int l,.int o,.rows q,.rows t,.rows u,.rows v,.rows z,.rows A,.pv B]) R k=ZVo n [.cells a,.cells b,.bool d,.int e,.rows f,.int g,.int i,.bool j,.int l,.int o,.rows q,.rows t,.rows u,.rows v,.rows z,.rows A,.pv B] R k:=by kernel_rfl
theorem ZeL (n:Nat)(p1 p2 p3 p4 p5 p6:Rs)(p7:Int)(d8 d9 a:Rs) :
  funK T G0 (Zja Zab) (Zjb n) .d false [none,none] (Zfa Tryz.f18) [.agg [.fs p1,.fs p2,.fs p3,.fs p4,.fs p5,.fs p6,.int .i64 p7],.agg [.fs d8,.fs d9,.fs a]]=ZCp n  p1 p2 p3 p4 p5 p6 p7 d8 d9 a (fun a0 a1 a2 a3 a4 a5 a6 a7=>some (ZRG (a0,a1,a2,a3,a4,a5,a6,a7))):=by kernel_rfl
theorem Z5J {ps:Cs} {y:Rs × Rs × Rs × Rs × Rs × Rs × Int × Int} (h:ZFz ps=some y):∃ (p1:Rs) (p2:Rs) (p3:Rs) (p4:Rs) (p5:Rs) (p6:Rs) (p7:Int) (d8:Rs) (d9:Rs) (a:Rs),ps=[.agg [.fs p1,.fs p2,.fs p3,.fs p4,.fs p5,.fs p6,.int .i64 p7],.agg [.fs d8,.fs d9,.fs a]]:=by
 unfold ZFz at h
 split at h
 ·exact ⟨_,_,_,_,_,_,_,_,_,_,rfl⟩
 ·cases h
theorem ZFx:Zpa (Zca Tryz.f18)=[Zia [1,1,1,1,0,1,0,0] (Zca Tryz.f18),Zia [1,1,1,1,0,1,0,0,1,1,0,0,1,1,1,1,1,0,0] (Zca Tryz.f18),Zia [1,1,1,1,1,1,0,1,0,0] (Zca Tryz.f18),Zia [1,1,1,1,1,1,0,1,0,0,1,1,0,0,1,1,0,0] (Zca Tryz.f18),Zia [1,1,1,1,1,1,1,0,1,0,0] (Zca Tryz.f18),Zia [1,1,1,1,1,1,1,1,0,1,0,0] (Zca Tryz.f18),Zia [1,1,1,1,1,1,1,1,1,1,1,0,1,0,0] (Zca Tryz.f18),Zia [1,1,1,1,1,1,1,1,1,1,1,1,1,0,1,0,0] (Zca Tryz.f18),Zia [1,1,1,1,1,1,1,1,1,1,1,1,1,1,0,1,0,0] (Zca Tryz.f18),Zia [1,1,1,1,1,1,1,1,1,1,1,1,1,1,1,1,0,1,0,0] (Zca Tryz.f18),Zia [1,1,1,1,1,1,1,1,1,1,1,1,1,1,1,1,1,0,1,0,0] (Zca Tryz.f18)]:=by kernel_rfl
theorem ZWG:(ZAa (Zca Tryz.f18)).filter Zxw=[Zia [1,1,1,1,0,1,0,0,1,1,0,0,1,1] (Zca Tryz.f18),Zia [1,1,1,1,0,1,0,0,1,1,0,0,1,0,1] (Zca Tryz.f18),Zia [1,1,1,1,0,1,0,0,1,1,0,0,1,1,1] (Zca Tryz.f18),Zia [1,1,1,1,0,1,0,0,1,1,0,0,1,1,1,1] (Zca Tryz.f18),Zia [1,1,1,1,0,1,0,0,1,1,0,0,1,1,1,1,1,0,0,1,1,0,0,1,1] (Zca Tryz.f18),Zia [1,1,1,1,1,1,1,0,1,0,0,1,1,0,0,1,1,1] (Zca Tryz.f18),Zia [1,1,1,1,1,1,1,0,1,0,0,1,1,0,0,1,1,0,1] (Zca Tryz.f18)]:=by kernel_rfl
theorem ZkI (hΓ:Zga Tryz.prog G0 Zab) (hok:∀ (p1 p2 p3 p4 p5 p6:Rs)(p7:Int)(d8 d9 a:Rs)(y:Rs × Rs × Rs × Rs × Rs × Rs × Int × Int),ZQi p1 p2 p3 p4 p5 p6 p7 d8 d9 a=some y→∃ n,∀ (R:Type)(k:Rs→Rs→Rs→Rs→Rs→Rs→Int→Int→Option R),ZCp n  p1 p2 p3 p4 p5 p6 p7 d8 d9 a k=k y.1 y.2.1 y.2.2.1 y.2.2.2.1 y.2.2.2.2.1 y.2.2.2.2.2.1 y.2.2.2.2.2.2.1 y.2.2.2.2.2.2.2):Zka Tryz.prog G0 18 Zsy:=by
 refine ZHa mixed tOk (Zna hΓ) Tryz.func18 rfl rfl rfl rfl (F:=Zfa Tryz.f18) (ZBa ZUa) (pat:=Z9A) (L:=ZIG) (ZFa ZUa) (on:=Zxw) (patj:=Zsz) (J:=ZBG) (fun c hc ls R k=>?_) (fun c hc p hp m ls R k r h=>?_) (fun c hc p hp m ls R k r h=>?_) (fun ps x h=>?_)
 ·rw [show (Zfa Tryz.f18).code=Zca Tryz.f18 from rfl,ZFx] at hc
  simp only [List.mem_cons,List.not_mem_nil,or_false] at hc
  rcases hc with rfl | rfl | rfl | rfl | rfl | rfl | rfl | rfl | rfl | rfl | rfl
  ·show ZSj 0 ls R k=none
   unfold ZSj
   split
   ·rfl
   ·rfl
  ·show Z5h 0 ls R k=none
   unfold Z5h
   split
   ·rfl
   ·rfl
  ·show Zfi 0 ls R k=none
   unfold Zfi
   split
   ·rfl
   ·rfl
  ·show Zii 0 ls R k=none
   unfold Zii
   split
   ·rfl
   ·rfl
  ·show Zbi 0 ls R k=none
   unfold Zbi
   split
   ·rfl
   ·rfl
  ·show Z8h 0 ls R k=none
   unfold Z8h
   split
   ·rfl
   ·rfl
  ·show Z4h 0 ls R k=none
   unfold Z4h
   split
   ·rfl
   ·rfl
  ·show Z6h 0 ls R k=none
   unfold Z6h
   split
   ·rfl
   ·rfl
  ·show Z7h 0 ls R k=none
   unfold Z7h
   split
   ·rfl
   ·rfl
  ·show Zdi 0 ls R k=none
   unfold Zdi
   split
   ·rfl
   ·rfl
  ·show Zci 0 ls R k=none
   unfold Zci
   split
   ·rfl
   ·rfl
 ·rw [show (Zfa Tryz.f18).code=Zca Tryz.f18 from rfl,ZFx] at hc
  simp only [List.mem_cons,List.not_mem_nil,or_false] at hc
  rcases hc with rfl | rfl | rfl | rfl | rfl | rfl | rfl | rfl | rfl | rfl | rfl
  ·obtain rfl:ZPw=p:=Option.some.inj hp
   change ZSj (m + 1) ls R k=some r at h
   have h':=h
   unfold ZSj at h'
   split at h'
   ·exact (ZMH m _ _ _ _ _ _ _ _ _ _ _ _ _ _ R k).trans h
   ·cases h'
  ·obtain rfl:Zyu=p:=Option.some.inj hp
   change Z5h (m + 1) ls R k=some r at h
   have h':=h
   unfold Z5h at h'
   split at h'
   ·exact (ZyF m _ _ _ _ _ _ _ _ _ _ _ _ _ _ _ _ _ R k).trans h
   ·cases h'
  ·obtain rfl:ZEu=p:=Option.some.inj hp
   change Zfi (m + 1) ls R k=some r at h
   have h':=h
   unfold Zfi at h'
   split at h'
   ·exact (ZUF m _ _ _ _ _ _ _ _ _ _ _ _ _ _ R k).trans h
   ·cases h'
  ·obtain rfl:ZZt=p:=Option.some.inj hp
   change Zii (m + 1) ls R k=some r at h
   have h':=h
   unfold Zii at h'
   split at h'
   ·exact (ZqF m _ _ _ _ _ _ _ _ _ _ _ _ _ _ _ _ _ R k).trans h
   ·cases h'
  ·obtain rfl:Z7u=p:=Option.some.inj hp
   change Zbi (m + 1) ls R k=some r at h
   have h':=h
   unfold Zbi at h'
   split at h'
   ·exact (Z9E m _ _ _ _ _ _ _ _ _ _ _ _ _ _ R k).trans h
   ·cases h'
  ·obtain rfl:Zgu=p:=Option.some.inj hp
   change Z8h (m + 1) ls R k=some r at h
   have h':=h
   unfold Z8h at h'
   split at h'
   ·exact (ZxF m _ _ _ _ _ _ _ _ _ _ _ _ _ _ R k).trans h
   ·cases h'
  ·obtain rfl:ZNu=p:=Option.some.inj hp
   change Z4h (m + 1) ls R k=some r at h
   have h':=h
   unfold Z4h at h'
   split at h'
   ·exact (ZdG m _ _ _ _ _ _ _ _ _ _ _ _ _ _ R k).trans h
   ·cases h'
  ·obtain rfl:ZMu=p:=Option.some.inj hp
   change Z6h (m + 1) ls R k=some r at h
   have h':=h
   unfold Z6h at h'
   split at h'
   ·exact (ZiG m _ _ _ _ _ _ _ _ _ _ _ _ _ _ _ R k).trans h
   ·cases h'
  ·obtain rfl:ZRu=p:=Option.some.inj hp
   change Z7h (m + 1) ls R k=some r at h
   have h':=h
   unfold Z7h at h'
   split at h'
   ·exact (Z0F m _ _ _ _ _ _ _ _ _ _ _ _ _ _ _ R k).trans h
   ·cases h'
  ·obtain rfl:ZUu=p:=Option.some.inj hp
   change Zdi (m + 1) ls R k=some r at h
   have h':=h
   unfold Zdi at h'
   split at h'
   ·exact (ZeG m _ _ _ _ _ _ _ _ _ _ _ _ _ R k).trans h
   ·cases h'
  ·obtain rfl:ZGu=p:=Option.some.inj hp
   change Zci (m + 1) ls R k=some r at h
   have h':=h
   unfold Zci at h'
   split at h'
   ·exact (ZlG m _ _ _ _ _ _ _ _ _ _ _ _ R k).trans h
   ·cases h'
 ·rw [show (Zfa Tryz.f18).code=Zca Tryz.f18 from rfl,ZWG] at hc
  simp only [List.mem_cons,List.not_mem_nil,or_false] at hc
  rcases hc with rfl | rfl | rfl | rfl | rfl | rfl | rfl
  ·obtain rfl:Zos=p:=Option.some.inj hp
   change ZXo m ls R k=some r at h
   have h':=h
   unfold ZXo at h'
   split at h'
   ·exact (ZXE m _ _ _ _ _ _ _ _ _ _ _ _ _ _ _ R k).trans h
   ·cases h'
  ·obtain rfl:ZTs=p:=Option.some.inj hp
   change ZZo m ls R k=some r at h
   have h':=h
   unfold ZZo at h'
   split at h'
   ·exact (ZLD m _ _ _ _ _ _ _ _ _ _ _ _ _ _ _ _ R k).trans h
   ·cases h'
  ·obtain rfl:ZVs=p:=Option.some.inj hp
   change ZTo m ls R k=some r at h
   have h':=h
   unfold ZTo at h'
   split at h'
   ·exact (ZxD m _ _ _ _ _ _ _ _ _ _ _ _ _ _ _ R k).trans h
   ·cases h'
  ·obtain rfl:Zvr=p:=Option.some.inj hp
   change Z6o m ls R k=some r at h
   have h':=h
   unfold Z6o at h'
   split at h'
   ·exact (ZtE m _ _ _ _ _ _ _ _ _ _ _ _ _ _ _ R k).trans h
   ·cases h'
  ·obtain rfl:ZYs=p:=Option.some.inj hp
   change ZNo m ls R k=some r at h
   have h':=h
   unfold ZNo at h'
   split at h'
   ·exact (ZBE m _ _ _ _ _ _ _ _ _ _ _ _ _ _ _ _ _ _ R k).trans h
   ·cases h'
  ·obtain rfl:ZWr=p:=Option.some.inj hp
   change Z5o m ls R k=some r at h
   have h':=h
   unfold Z5o at h'
   split at h'
   ·exact (Z6D m _ _ _ _ _ _ _ _ _ _ _ _ _ _ _ _ R k).trans h
   ·cases h'
  ·obtain rfl:ZCs=p:=Option.some.inj hp
   change ZVo m ls R k=some r at h
   have h':=h
   unfold ZVo at h'
   split at h'
   ·exact (Z3E m _ _ _ _ _ _ _ _ _ _ _ _ _ _ _ _ _ R k).trans h
   ·cases h'
 ·obtain ⟨y,hy,hx⟩:=Zba h
  cases hx
  obtain ⟨p1,p2,p3,p4,p5,p6,p7,d8,d9,a,rfl⟩:=Z5J hy
  obtain ⟨n,hn⟩:=hok p1 p2 p3 p4 p5 p6 p7 d8 d9 a y hy
  exact ⟨n,(ZeL n p1 p2 p3 p4 p5 p6 p7 d8 d9 a).trans (hn _ _)⟩
end
end Go.Proofs.YtgpjfmihogaooaaGreatDoorV
namespace Go.Proofs.YtgpjfmihogaooaaGreatDoorV
open Go
set_option maxRecDepth 100000
set_option linter.unusedVariables false
set_option linter.unusedSimpArgs false
noncomputable section
def Zim {R:Type} (k:Rs→Rs→Rs→Rs→Rs→Rs→Rs→Rs→Rs→Rs→Int→Option R):Option R :=
 Option.bind (Z5b [[.int .i64 6,.int .i64 10,.int .i64 60],[.int .i64 3,.int .i64 0,.int .i64 30]] [[.int .i64 3,.int .i64 0,.int .i64 40,.int .i64 2],[.int .i64 (-1),.int .i64 30,.int .i64 35,.int .i64 0],[.int .i64 4,.int .i64 0,.int .i64 100,.int .i64 5],[.int .i64 (-4),.int .i64 20,.int .i64 100,.int .i64 0]] [[.int .i64 3,.int .i64 4]] [[.fs [[.int .i64 0],[.int .i64 4],[.int .i64 6],[.int .i64 8],[.int .i64 3]]],[.fs [[.int .i64 5],[.int .i64 0],[.int .i64 2],[.int .i64 9],[.int .i64 1]]],[.fs [[.int .i64 7],[.int .i64 3],[.int .i64 0],[.int .i64 2],[.int .i64 2]]],[.fs [[.int .i64 1],[.int .i64 1],[.int .i64 1],[.int .i64 0],[.int .i64 5]]],[.fs [[.int .i64 2],[.int .i64 2],[.int .i64 2],[.int .i64 2],[.int .i64 0]]]]) fun y1 =>
 Option.bind (ZQi y1.1 y1.2.1 y1.2.2.1 y1.2.2.2.1 y1.2.2.2.2.1 y1.2.2.2.2.2.1 y1.2.2.2.2.2.2 [[.int .i64 0,.fs [],.fs [[.int .i64 1]]]] [[.int .i64 2,.int .i64 (-1),.int .i64 1]] [[.int .i64 1,.int .i64 (-1),.int .i64 2]]) fun y2 =>
 (fun (z1:Option R) =>
  meet (
   meet (
    z1) (
    z1)) (
   z1)) (
  k [[.int .i64 6,.int .i64 10,.int .i64 60],[.int .i64 3,.int .i64 0,.int .i64 30]] [[.int .i64 3,.int .i64 0,.int .i64 40,.int .i64 2],[.int .i64 (-1),.int .i64 30,.int .i64 35,.int .i64 0],[.int .i64 4,.int .i64 0,.int .i64 100,.int .i64 5],[.int .i64 (-4),.int .i64 20,.int .i64 100,.int .i64 0]] [[.int .i64 3,.int .i64 4]] [[.fs [[.int .i64 0],[.int .i64 4],[.int .i64 6],[.int .i64 8],[.int .i64 3]]],[.fs [[.int .i64 5],[.int .i64 0],[.int .i64 2],[.int .i64 9],[.int .i64 1]]],[.fs [[.int .i64 7],[.int .i64 3],[.int .i64 0],[.int .i64 2],[.int .i64 2]]],[.fs [[.int .i64 1],[.int .i64 1],[.int .i64 1],[.int .i64 0],[.int .i64 5]]],[.fs [[.int .i64 2],[.int .i64 2],[.int .i64 2],[.int .i64 2],[.int .i64 0]]]] y2.1 y2.2.1 y2.2.2.1 y2.2.2.2.1 y2.2.2.2.2.1 y2.2.2.2.2.2.1 y2.2.2.2.2.2.2.1)
def ZeE (y:Rs × Rs × Rs × Rs × Rs × Rs × Rs × Rs × Rs × Rs × Int):PV × Cs:=((PV.tuple [.agg [.fs y.1,.fs y.2.1,.fs y.2.2.1,.fs y.2.2.2.1],.agg [.fs y.2.2.2.2.1,.fs y.2.2.2.2.2.1,.fs y.2.2.2.2.2.2.1,.fs y.2.2.2.2.2.2.2.1,.fs y.2.2.2.2.2.2.2.2.1,.fs y.2.2.2.2.2.2.2.2.2.1,.int .i64 y.2.2.2.2.2.2.2.2.2.2]]),[])
def ZFd:Option (Rs × Rs × Rs × Rs × Rs × Rs × Rs × Rs × Rs × Rs × Int) :=
 Option.bind (Z5b [[.int .i64 6,.int .i64 10,.int .i64 60],[.int .i64 3,.int .i64 0,.int .i64 30]] [[.int .i64 3,.int .i64 0,.int .i64 40,.int .i64 2],[.int .i64 (-1),.int .i64 30,.int .i64 35,.int .i64 0],[.int .i64 4,.int .i64 0,.int .i64 100,.int .i64 5],[.int .i64 (-4),.int .i64 20,.int .i64 100,.int .i64 0]] [[.int .i64 3,.int .i64 4]] [[.fs [[.int .i64 0],[.int .i64 4],[.int .i64 6],[.int .i64 8],[.int .i64 3]]],[.fs [[.int .i64 5],[.int .i64 0],[.int .i64 2],[.int .i64 9],[.int .i64 1]]],[.fs [[.int .i64 7],[.int .i64 3],[.int .i64 0],[.int .i64 2],[.int .i64 2]]],[.fs [[.int .i64 1],[.int .i64 1],[.int .i64 1],[.int .i64 0],[.int .i64 5]]],[.fs [[.int .i64 2],[.int .i64 2],[.int .i64 2],[.int .i64 2],[.int .i64 0]]]]) fun y1 =>
 Option.bind (ZQi y1.1 y1.2.1 y1.2.2.1 y1.2.2.2.1 y1.2.2.2.2.1 y1.2.2.2.2.2.1 y1.2.2.2.2.2.2 [[.int .i64 0,.fs [],.fs [[.int .i64 1]]]] [[.int .i64 2,.int .i64 (-1),.int .i64 1]] [[.int .i64 1,.int .i64 (-1),.int .i64 2]]) fun y2 =>
 some ([[.int .i64 6,.int .i64 10,.int .i64 60],[.int .i64 3,.int .i64 0,.int .i64 30]],[[.int .i64 3,.int .i64 0,.int .i64 40,.int .i64 2],[.int .i64 (-1),.int .i64 30,.int .i64 35,.int .i64 0],[.int .i64 4,.int .i64 0,.int .i64 100,.int .i64 5],[.int .i64 (-4),.int .i64 20,.int .i64 100,.int .i64 0]],[[.int .i64 3,.int .i64 4]],[[.fs [[.int .i64 0],[.int .i64 4],[.int .i64 6],[.int .i64 8],[.int .i64 3]]],[.fs [[.int .i64 5],[.int .i64 0],[.int .i64 2],[.int .i64 9],[.int .i64 1]]],[.fs [[.int .i64 7],[.int .i64 3],[.int .i64 0],[.int .i64 2],[.int .i64 2]]],[.fs [[.int .i64 1],[.int .i64 1],[.int .i64 1],[.int .i64 0],[.int .i64 5]]],[.fs [[.int .i64 2],[.int .i64 2],[.int .i64 2],[.int .i64 2],[.int .i64 0]]]],y2.1,y2.2.1,y2.2.2.1,y2.2.2.2.1,y2.2.2.2.2.1,y2.2.2.2.2.2.1,y2.2.2.2.2.2.2.1)
theorem ZBK {R:Type} (k:Rs→Rs→Rs→Rs→Rs→Rs→Rs→Rs→Rs→Rs→Int→Option R):Tw (ZFd) (Zim  k) (fun s=>match s with | (a0,a1,a2,a3,a4,a5,a6,a7,a8,a9,a)=>k a0 a1 a2 a3 a4 a5 a6 a7 a8 a9 a):=by
 unfold ZFd Zim
 refine Zaa fun y1 _=>?_
 refine Zaa fun y2 _=>?_
 intro s hs
 cases hs
 simp only [Option.bind_some,cond_true,cond_false,if_true,if_false,ite_true,ite_false,ZGa,and_self,true_and,and_true,eq_self,not_true_eq_false,not_false_eq_true,Bool.false_eq_true,reduceCtorEq]
theorem ZVJ:∀ (y:Rs × Rs × Rs × Rs × Rs × Rs × Rs × Rs × Rs × Rs × Int),ZFd=some y→∀ (R:Type)(k:Rs→Rs→Rs→Rs→Rs→Rs→Rs→Rs→Rs→Rs→Int→Option R),Zim  k=k y.1 y.2.1 y.2.2.1 y.2.2.2.1 y.2.2.2.2.1 y.2.2.2.2.2.1 y.2.2.2.2.2.2.1 y.2.2.2.2.2.2.2.1 y.2.2.2.2.2.2.2.2.1 y.2.2.2.2.2.2.2.2.2.1 y.2.2.2.2.2.2.2.2.2.2:=fun y h=>fun R k=>ZBK k y h
def ZQw:Cs→Option (Rs × Rs × Rs × Rs × Rs × Rs × Rs × Rs × Rs × Rs × Int)
 | []=>ZFd
 | _=>none
def Z7w:List (Nat × Cal):=[(15,.ctr ZOo),(18,.ctr Zsy)]
def ZKw:Ctr:=⟨[],Rs × Rs × Rs × Rs × Rs × Rs × Rs × Rs × Rs × Rs × Int,ZQw,ZeE,false,.d⟩
theorem Z2J :
  funK T G0 (Zja Z7w) noL .d false [] (Zfa Tryz.f7) []=Zim  (fun a0 a1 a2 a3 a4 a5 a6 a7 a8 a9 a=>some (ZeE (a0,a1,a2,a3,a4,a5,a6,a7,a8,a9,a))):=by kernel_rfl
theorem ZaJ {ps:Cs} {y:Rs × Rs × Rs × Rs × Rs × Rs × Rs × Rs × Rs × Rs × Int} (h:ZQw ps=some y):ps=[]:=by
 unfold ZQw at h
 split at h
 ·rfl
 ·cases h
theorem ZfG (hΓ:Zga Tryz.prog G0 Z7w) (hok:∀ (y:Rs × Rs × Rs × Rs × Rs × Rs × Rs × Rs × Rs × Rs × Int),ZFd=some y→∀ (R:Type)(k:Rs→Rs→Rs→Rs→Rs→Rs→Rs→Rs→Rs→Rs→Int→Option R),Zim  k=k y.1 y.2.1 y.2.2.1 y.2.2.2.1 y.2.2.2.2.1 y.2.2.2.2.2.1 y.2.2.2.2.2.2.1 y.2.2.2.2.2.2.2.1 y.2.2.2.2.2.2.2.2.1 y.2.2.2.2.2.2.2.2.2.1 y.2.2.2.2.2.2.2.2.2.2):Zka Tryz.prog G0 7 ZKw:=by
 refine ZIa mixed tOk (Zna hΓ) Tryz.func7 rfl rfl rfl rfl (F:=Zfa Tryz.f7) (fun ps x h=>?_)
 obtain ⟨y,hy,hx⟩:=Zba h
 cases hx
 obtain rfl:=ZaJ hy
 refine ⟨noL,ZKa _,(Z2J).trans (hok y hy _ _)⟩
def Zpk {R:Type} (k:Cs→Option R):Option R :=
 k [.fs []]
def ZgB (y:(Cs)):PV × Cs:=((PV.rp y 0),[])
def Zub:Option ((Cs)):=Zpk fun a0=>some a0
def Z5u:Cs→Option ((Cs))
 | []=>Zub
 | _=>none
def ZiB:List (Nat × Cal):=[]
def ZSo:Ctr:=⟨[],(Cs),Z5u,ZgB,false,.d⟩
theorem ZHI :
  funK T G0 (Zja ZiB) noL .d false [] (Zfa Tryz.f8) []=Zpk  (fun a0=>some (ZgB a0)):=by kernel_rfl
theorem ZwI {ps:Cs} {y:(Cs)} (h:Z5u ps=some y):ps=[]:=by
 unfold Z5u at h
 split at h
 ·rfl
 ·cases h
theorem ZqI {R:Type} (k:Cs→Option R):Zpk k=Option.bind (Zpk fun a0=>some a0) fun y=>k y:=by
 unfold Zpk
 first | rfl | simp only [Option.bind_assoc,Zya,Zxa,Option.bind_some,Option.bind_none]
theorem ZyD (hΓ:Zga Tryz.prog G0 ZiB):Zka Tryz.prog G0 8 ZSo:=by
 refine ZIa mixed tOk (Zna hΓ) Tryz.func8 rfl rfl rfl rfl (F:=Zfa Tryz.f8) (fun ps x h=>?_)
 obtain ⟨y,hy,hx⟩:=Zba h
 cases hx
 obtain rfl:=ZwI hy
 have hy':Zub=some y:=hy
 refine ⟨noL,ZKa _,(ZHI).trans ?_⟩
 unfold Zub at hy'
 rw [ZqI,hy']
 rfl
def ZOn {R:Type} (n:Nat)(a b:ByteArray)(d:Int)(e:Bool)(f:Rs)(k0 k1:ByteArray→ByteArray→Int→Rs→Option R):Option R :=
 cond e (
  if (0:Int)≤d∧d≤(IntKind.i64.wrap (d + (1:Int)))∧(IntKind.i64.wrap (d + (1:Int)))≤((a).size:Int) then
   if (b).size + ((ByteArray.extract a (Int.toNat d) (Int.toNat (IntKind.i64.wrap (d + (1:Int)))))).size≤140737488355328 then
    k0 a (b ++ (ByteArray.extract a (Int.toNat d) (Int.toNat (IntKind.i64.wrap (d + (1:Int)))))) d f
   else none
  else none) (
  k1 a b d f)
def ZUm {R:Type} (n:Nat)(a b:ByteArray)(d:Int)(e:Rs)(k0:ByteArray→ByteArray→Int→Rs→Option R):Option R :=
 cond (!(ByteArray.toList b == ByteArray.toList (ByteArray.mk #[]))) (
  if (e.length + ([[.str b]]:Rs).length) * 16≤Zla then
   k0 a (ByteArray.mk #[]) d (e ++ [[.str b]])
  else none) (
  k0 a (ByteArray.mk #[]) d e)
def ZBf {R:Type}:Nat→ByteArray→ByteArray→Int→Rs→(Rs→Option R)→Option R
 | 0,_,_,_,_,_=>none
 | n + 1,s3,w4,i5,a,k0 =>
  cond (decide (i5≤((s3).size:Int))) (
   cond (decide (i5 < ((s3).size:Int))) (
    Option.bind (idx (s3).data.toList i5) fun u7 =>
    ZOn n s3 w4 i5 ((u7.toNat:Int) !=(32:Int)) a
     (fun (s8 w9:ByteArray)(b:Int)(d:Rs) =>
      ZBf n s8 w9 (IntKind.i64.wrap (b + (1:Int))) d k0)
     (fun (e f:ByteArray)(g:Int)(i:Rs) =>
      ZUm n e f g i
       (fun (j l:ByteArray)(o:Int)(q:Rs) =>
        ZBf n j l (IntKind.i64.wrap (o + (1:Int))) q k0))) (
    ZOn n s3 w4 i5 false a
     (fun (t u:ByteArray)(v:Int)(z:Rs) =>
      ZBf n t u (IntKind.i64.wrap (v + (1:Int))) z k0)
     (fun (A B:ByteArray)(C:Int)(D:Rs) =>
      ZUm n A B C D
       (fun (E F:ByteArray)(G:Int)(H:Rs) =>
        ZBf n E F (IntKind.i64.wrap (G + (1:Int))) H k0)))) (
   k0 a)
def Zup {R:Type} (n:Nat)(s1:ByteArray)(k:Rs→Option R):Option R :=
 ZBf n s1 (ByteArray.mk #[]) 0 [] k
def ZPG (y:Rs):PV × Cs:=((PV.fs y),[])
def Z2o (n:Nat)(a b:ByteArray)(d:Int)(e:Bool)(f:Rs):Option ((ByteArray × ByteArray × Int × Rs) ⊕ (ByteArray × ByteArray × Int × Rs)) :=
 cond e (
  if (0:Int)≤d∧d≤(IntKind.i64.wrap (d + (1:Int)))∧(IntKind.i64.wrap (d + (1:Int)))≤((a).size:Int) then
   if (b).size + ((ByteArray.extract a (Int.toNat d) (Int.toNat (IntKind.i64.wrap (d + (1:Int)))))).size≤140737488355328 then
    some (Sum.inl (a,(b ++ (ByteArray.extract a (Int.toNat d) (Int.toNat (IntKind.i64.wrap (d + (1:Int)))))),d,f))
   else none
  else none) (
  some (Sum.inr (a,b,d,f)))
theorem ZfA {R:Type} (n:Nat)(a b:ByteArray)(d:Int)(e:Bool)(f:Rs)(k0 k1:ByteArray→ByteArray→Int→Rs→Option R):Tw (Z2o n a b d e f) (ZOn n a b d e f k0 k1) (fun s=>match s with | (Sum.inl (a0,a1,a2,a3))=>k0 a0 a1 a2 a3 | (Sum.inr (a0,a1,a2,a3))=>k1 a0 a1 a2 a3):=by
 unfold Z2o ZOn
 refine Zha (fun _=>?_) (fun _=>?_)
 ·refine Zqa fun _=>?_
  refine Zqa fun _=>?_
  exact Zda rfl
 ·exact Zda rfl
def ZLo (n:Nat)(a b:ByteArray)(d:Int)(e:Rs):Option ((ByteArray × ByteArray × Int × Rs)) :=
 cond (!(ByteArray.toList b == ByteArray.toList (ByteArray.mk #[]))) (
  if (e.length + ([[.str b]]:Rs).length) * 16≤Zla then
   some (a,(ByteArray.mk #[]),d,(e ++ [[.str b]]))
  else none) (
  some (a,(ByteArray.mk #[]),d,e))
theorem Zcz {R:Type} (n:Nat)(a b:ByteArray)(d:Int)(e:Rs)(k0:ByteArray→ByteArray→Int→Rs→Option R):Tw (ZLo n a b d e) (ZUm n a b d e k0) (fun s=>match s with | (a0,a1,a2,a3)=>k0 a0 a1 a2 a3):=by
 unfold ZLo ZUm
 refine Zha (fun _=>?_) (fun _=>?_)
 ·refine Zqa fun _=>?_
  exact Zda rfl
 ·exact Zda rfl
def Z4f:Nat→ByteArray→ByteArray→Int→Rs→Option ((Rs))
 | 0,_,_,_,_=>none
 | n + 1,s3,w4,i5,a =>
  cond (decide (i5≤((s3).size:Int))) (
   cond (decide (i5 < ((s3).size:Int))) (
    Option.bind (idx (s3).data.toList i5) fun u7 =>
    Option.bind (Z2o n s3 w4 i5 ((u7.toNat:Int) !=(32:Int)) a) fun s=>match s with
     | (Sum.inl (s8,w9,b,d)) =>
      Z4f n s8 w9 (IntKind.i64.wrap (b + (1:Int))) d
     | (Sum.inr (e,f,g,i)) =>
      Option.bind (ZLo n e f g i) fun s=>match s with
       | (j,l,o,q) =>
        Z4f n j l (IntKind.i64.wrap (o + (1:Int))) q) (
    Option.bind (Z2o n s3 w4 i5 false a) fun s=>match s with
     | (Sum.inl (t,u,v,z)) =>
      Z4f n t u (IntKind.i64.wrap (v + (1:Int))) z
     | (Sum.inr (A,B,C,D)) =>
      Option.bind (ZLo n A B C D) fun s=>match s with
       | (E,F,G,H) =>
        Z4f n E F (IntKind.i64.wrap (G + (1:Int))) H)) (
   some a)
theorem ZSI {R:Type} (n:Nat)(s3 w4:ByteArray)(i5:Int)(a:Rs)(k0:Rs→Option R):Tw (Z4f n s3 w4 i5 a) (ZBf n s3 w4 i5 a k0) (fun s=>match s with | a0=>k0 a0):=by
 induction n generalizing s3 w4 i5 a with
 | zero=>exact Zwa
 | succ n ih =>
  unfold Z4f ZBf
  refine Zha (fun _=>?_) (fun _=>?_)
  ·refine Zha (fun _=>?_) (fun _=>?_)
   ·refine Zaa fun u7 _=>?_
    refine Zma (ZfA _ _ _ _ _ _ _ _) (fun s=>?_)
    rcases s with ⟨s8,w9,b,d⟩ | ⟨e,f,g,i⟩
    ·exact ih _ _ _ _
    ·refine Zma (Zcz _ _ _ _ _ _) (fun s=>?_)
     rcases s with ⟨j,l,o,q⟩
     ·exact ih _ _ _ _
   ·refine Zma (ZfA _ _ _ _ _ _ _ _) (fun s=>?_)
    rcases s with ⟨t,u,v,z⟩ | ⟨A,B,C,D⟩
    ·exact ih _ _ _ _
    ·refine Zma (Zcz _ _ _ _ _ _) (fun s=>?_)
     rcases s with ⟨E,F,G,H⟩
     ·exact ih _ _ _ _
  ·exact Zda rfl
def ZPi (s1:ByteArray):Option (Rs) :=
 Option.bind (Z4f 9223372036854775808 s1 (ByteArray.mk #[]) 0 []) fun s=>match s with
  | a =>
   some a
theorem ZgL {R:Type} (s1:ByteArray)(k:Rs→Option R):Tw (ZPi s1) (Zup 9223372036854775808 s1 k) (fun s=>match s with | a0=>k a0):=by
 unfold ZPi Zup
 refine Zma (ZSI _ _ _ _ _ _) (fun s=>?_)
 rcases s with a
 ·exact Zda rfl
theorem ZYK:∀ (s1:ByteArray)(y:Rs),ZPi s1=some y→∃ n,∀ (R:Type)(k:Rs→Option R),Zup n s1 k=k y:=fun s1 y h=>⟨9223372036854775808,fun R k=>ZgL s1 k y h⟩
def ZUy:Cs→Option (Rs)
 | [.str s1]=>ZPi s1
 | _=>none
def ZEp:List (Nat × Cal):=[]
def Zuz:Ctr:=⟨[none],Rs,ZUy,ZPG,false,.d⟩
def Z6f:List (Nat × LC):=[(4,⟨[0,3,4,5],[3],[],[],[]⟩),
 (4000008,⟨[0,3,4,5,21],[],[],[],[]⟩),
 (1004000,⟨[3],[],[],[],[]⟩),
 (100080001,⟨[0,3,4,5],[],[],[],[]⟩),
 (5000008,⟨[0,3,4,5],[],[],[],[]⟩),
 (4000009,⟨[0,3,4,5],[],[],[],[]⟩),
 (5000009,⟨[0,3,4,5],[],[],[],[]⟩)]
def ZYu:SP:=⟨Zea .undef [(0,(.val .str)),(3,(.ow 0)),(4,(.val .str)),(5,(.val (.int .i64))),(21,(.val .bool))] 0 36,[(.row 1)],[]⟩
def Z2t:SP:=⟨Zea .undef [(0,(.val .str)),(3,(.ow 0)),(4,(.val .str)),(5,(.val (.int .i64)))] 0 36,[(.row 1)],[]⟩
def Zfx:SP:=⟨Zea .undef [(0,(.val .str)),(3,(.ow 0)),(4,(.val .str)),(5,(.val (.int .i64)))] 0 36,[(.row 1)],[]⟩
def ZaB:Nat→Option SP
 | 4=>some Zfx
 | _=>none
def ZEy:Nat→Option SP
 | 8=>some ZYu
 | 9=>some Z2t
 | _=>none
def ZWq (n:Nat)(ls:List Leaf)(R:Type)(k:Ex→St→Option R):Option R :=
 match ls with
 | [.str a,.str b,.int d,.bool e,.rows f]=>ZOn n a b d e f (fun g i j l=>k (.exit 1) ⟨Zea .undef [(0,(TV.val (PV.str g))),(3,(TV.ow 0)),(4,(TV.val (PV.str i))),(5,(TV.val (PV.int .i64 j)))] 0 36,[(Ob.row l 1)],[]⟩)
   (fun o q t u=>k .normal ⟨Zea .undef [(0,(TV.val (PV.str o))),(3,(TV.ow 0)),(4,(TV.val (PV.str q))),(5,(TV.val (PV.int .i64 t)))] 0 36,[(Ob.row u 1)],[]⟩)
 | _=>none
def ZYq (n:Nat)(ls:List Leaf)(R:Type)(k:Ex→St→Option R):Option R :=
 match ls with
 | [.str a,.str b,.int d,.rows e]=>ZUm n a b d e (fun f g i j=>k .normal ⟨Zea .undef [(0,(TV.val (PV.str f))),(3,(TV.ow 0)),(4,(TV.val (PV.str g))),(5,(TV.val (PV.int .i64 i)))] 0 36,[(Ob.row j 1)],[]⟩)
 | _=>none
def ZLj (n:Nat)(ls:List Leaf)(R:Type)(k:Ex→St→Option R):Option R :=
 match ls with
 | [.str s3,.str w4,.int i5,.rows a]=>ZBf n s3 w4 i5 a (fun b=>k (.exit 0) ⟨Zea .undef [(3,(TV.ow 0))] 0 36,[(Ob.row b 1)],[]⟩)
 | _=>none
def ZKG (n key:Nat) (ls:List Leaf) (R:Type) (k:Ex→St→Option R):Option R :=
 match key with
 | 4=>ZLj n ls R k
 | _=>none
def ZHG (n key:Nat) (ls:List Leaf) (R:Type) (k:Ex→St→Option R):Option R :=
 match key with
 | 8=>ZWq n ls R k
 | 9=>ZYq n ls R k
 | _=>none
def Z4w:Code→Bool:=onKeys [9,8]
def Zlt:Nat→Loops:=patL (Zsa Z6f) ZaB ZKG (ZCa Z6f) Z4w ZEy ZHG
theorem ZTH (n:Nat)(s3 w4:ByteArray)(i5:Int)(a:Rs)  (R:Type) (k:Ex→St→Option R) :
  Zza T G0 (Zja ZEp) (Zsa Z6f) (Zlt n) (Zia [1,1,1,0,1,0,0] (Zca Tryz.f33)) (Zoa Zfx [.str s3,.str w4,.int i5,.rows a]) R k=ZLj (n + 1) [.str s3,.str w4,.int i5,.rows a] R k:=by kernel_rfl
theorem ZLF (n:Nat)(a b:ByteArray)(d:Int)(e:Rs)  (R:Type) (k:Ex→St→Option R) :
  Z0a T G0 (Zja ZEp) (ZCa Z6f) (Zlt n) (Zia [1,1,1,0,1,0,0,1,0,0,1] (Zca Tryz.f33)) (Zoa Z2t [.str a,.str b,.int d,.rows e]) R k=ZYq n [.str a,.str b,.int d,.rows e] R k:=by kernel_rfl
theorem ZmF (n:Nat)(a b:ByteArray)(d:Int)(e:Bool)(f:Rs)  (R:Type) (k:Ex→St→Option R) :
  Z0a T G0 (Zja ZEp) (ZCa Z6f) (Zlt n) (Zia [1,1,1,0,1,0,0,1,0,0,0,1] (Zca Tryz.f33)) (Zoa ZYu [.str a,.str b,.int d,.bool e,.rows f]) R k=ZWq n [.str a,.str b,.int d,.bool e,.rows f] R k:=by kernel_rfl
theorem Z7K (n:Nat)(s1:ByteArray) :
  funK T G0 (Zja ZEp) (Zlt n) .d false [none] (Zfa Tryz.f33) [.str s1]=Zup n  s1 (fun a0=>some (ZPG a0)):=by kernel_rfl
theorem ZiK {ps:Cs} {y:Rs} (h:ZUy ps=some y):∃ (s1:ByteArray),ps=[.str s1]:=by
 unfold ZUy at h
 split at h
 ·exact ⟨_,rfl⟩
 ·cases h
theorem ZZx:Zpa (Zca Tryz.f33)=[Zia [1,1,1,0,1,0,0] (Zca Tryz.f33)]:=by kernel_rfl
theorem Z3G:(ZAa (Zca Tryz.f33)).filter Z4w=[Zia [1,1,1,0,1,0,0,1,0,0,1] (Zca Tryz.f33),Zia [1,1,1,0,1,0,0,1,0,0,0,1] (Zca Tryz.f33)]:=by kernel_rfl
theorem ZzH (hΓ:Zga Tryz.prog G0 ZEp) (hok:∀ (s1:ByteArray)(y:Rs),ZPi s1=some y→∃ n,∀ (R:Type)(k:Rs→Option R),Zup n  s1 k=k y):Zka Tryz.prog G0 33 Zuz:=by
 refine ZHa mixed tOk (Zna hΓ) Tryz.func33 rfl rfl rfl rfl (F:=Zfa Tryz.f33) (ZBa Z6f) (pat:=ZaB) (L:=ZKG) (ZFa Z6f) (on:=Z4w) (patj:=ZEy) (J:=ZHG) (fun c hc ls R k=>?_) (fun c hc p hp m ls R k r h=>?_) (fun c hc p hp m ls R k r h=>?_) (fun ps x h=>?_)
 ·rw [show (Zfa Tryz.f33).code=Zca Tryz.f33 from rfl,ZZx] at hc
  simp only [List.mem_cons,List.not_mem_nil,or_false] at hc
  rcases hc with rfl
  ·show ZLj 0 ls R k=none
   unfold ZLj
   split
   ·rfl
   ·rfl
 ·rw [show (Zfa Tryz.f33).code=Zca Tryz.f33 from rfl,ZZx] at hc
  simp only [List.mem_cons,List.not_mem_nil,or_false] at hc
  rcases hc with rfl
  ·obtain rfl:Zfx=p:=Option.some.inj hp
   change ZLj (m + 1) ls R k=some r at h
   have h':=h
   unfold ZLj at h'
   split at h'
   ·exact (ZTH m _ _ _ _ R k).trans h
   ·cases h'
 ·rw [show (Zfa Tryz.f33).code=Zca Tryz.f33 from rfl,Z3G] at hc
  simp only [List.mem_cons,List.not_mem_nil,or_false] at hc
  rcases hc with rfl | rfl
  ·obtain rfl:Z2t=p:=Option.some.inj hp
   change ZYq m ls R k=some r at h
   have h':=h
   unfold ZYq at h'
   split at h'
   ·exact (ZLF m _ _ _ _ R k).trans h
   ·cases h'
  ·obtain rfl:ZYu=p:=Option.some.inj hp
   change ZWq m ls R k=some r at h
   have h':=h
   unfold ZWq at h'
   split at h'
   ·exact (ZmF m _ _ _ _ _ R k).trans h
   ·cases h'
 ·obtain ⟨y,hy,hx⟩:=Zba h
  cases hx
  obtain ⟨s1,rfl⟩:=ZiK hy
  obtain ⟨n,hn⟩:=hok s1 y hy
  exact ⟨n,(Z7K n s1).trans (hn _ _)⟩
def Zrp {R:Type} (a b:Int)(d e:Rs)(k0:ByteArray→ByteArray→Int→Option R):Option R :=
 if 0≤a∧a < (d.length:Int) then
  if 0≤a∧a < (e.length:Int) then
   meet (
    Option.bind (d[(Int.toNat a)]?) fun f =>
    Option.bind (f[0]?) fun g =>
    Option.bind (PV.asS g) fun i =>
    Option.bind (e[(Int.toNat a)]?) fun j =>
    Option.bind (j[0]?) fun l =>
    Option.bind (PV.asS l) fun o =>
    k0 i o b) (
    Option.bind (e[(Int.toNat a)]?) fun q =>
    Option.bind (q[0]?) fun t =>
    Option.bind (PV.asS t) fun u =>
    Option.bind (d[(Int.toNat a)]?) fun v =>
    Option.bind (v[0]?) fun z =>
    Option.bind (PV.asS z) fun A =>
    k0 A u b)
  else none
 else none
def Zsp {R:Type} (a:Int)(b:Bool)(d e:Rs)(k0:ByteArray→ByteArray→Int→Option R)(k1:Int→Rs→Rs→Option R):Option R :=
 cond b (
  k0 (ByteArray.mk #[]) (ByteArray.mk #[]) 0) (
  k1 a d e)
def Zjp {R:Type} (a:Int)(b d:Rs)(k0:ByteArray→ByteArray→Int→Option R):Option R :=
 if 0≤a∧a < (d.length:Int) then
  Option.bind (d[(Int.toNat a)]?) fun e =>
  Option.bind (e[0]?) fun f =>
  Option.bind (PV.asS f) fun g =>
  cond (((g).size:Int) ==(4:Int)) (
   Zrp a 1 b d k0) (
   Zrp a 0 b d k0)
 else none
def Zqr {R:Type} (a:Int)(k:ByteArray→ByteArray→Int→Option R):Option R :=
 cond (decide (a < (1:Int))) (
  Zsp a true [[.str (ByteArray.mk #[])],[.str (ByteArray.mk #[97,100,100])],[.str (ByteArray.mk #[100,101,108])],[.str (ByteArray.mk #[109,111,118])],[.str (ByteArray.mk #[108,111,99,107])],[.str (ByteArray.mk #[102,114,101,101])],[.str (ByteArray.mk #[105,99,101])],[.str (ByteArray.mk #[116,104,97,119])],[.str (ByteArray.mk #[111,112,116])],[.str (ByteArray.mk #[117,110,100,111])],[.str (ByteArray.mk #[114,101,100,111])],[.str (ByteArray.mk #[115,104,111,119])],[.str (ByteArray.mk #[112,111,111,108])],[.str (ByteArray.mk #[99,111,115,116])]] [[.str (ByteArray.mk #[])],[.str (ByteArray.mk #[115,99,105,106])],[.str (ByteArray.mk #[115])],[.str (ByteArray.mk #[115,99,105,106])],[.str (ByteArray.mk #[115])],[.str (ByteArray.mk #[115])],[.str (ByteArray.mk #[99])],[.str (ByteArray.mk #[99])],[.str (ByteArray.mk #[98,120,99,100])],[.str (ByteArray.mk #[])],[.str (ByteArray.mk #[])],[.str (ByteArray.mk #[99])],[.str (ByteArray.mk #[])],[.str (ByteArray.mk #[])]] k
   (fun (b:Int)(d e:Rs) =>
    Zjp b d e k)) (
  Zsp a (decide (a > (13:Int))) [[.str (ByteArray.mk #[])],[.str (ByteArray.mk #[97,100,100])],[.str (ByteArray.mk #[100,101,108])],[.str (ByteArray.mk #[109,111,118])],[.str (ByteArray.mk #[108,111,99,107])],[.str (ByteArray.mk #[102,114,101,101])],[.str (ByteArray.mk #[105,99,101])],[.str (ByteArray.mk #[116,104,97,119])],[.str (ByteArray.mk #[111,112,116])],[.str (ByteArray.mk #[117,110,100,111])],[.str (ByteArray.mk #[114,101,100,111])],[.str (ByteArray.mk #[115,104,111,119])],[.str (ByteArray.mk #[112,111,111,108])],[.str (ByteArray.mk #[99,111,115,116])]] [[.str (ByteArray.mk #[])],[.str (ByteArray.mk #[115,99,105,106])],[.str (ByteArray.mk #[115])],[.str (ByteArray.mk #[115,99,105,106])],[.str (ByteArray.mk #[115])],[.str (ByteArray.mk #[115])],[.str (ByteArray.mk #[99])],[.str (ByteArray.mk #[99])],[.str (ByteArray.mk #[98,120,99,100])],[.str (ByteArray.mk #[])],[.str (ByteArray.mk #[])],[.str (ByteArray.mk #[99])],[.str (ByteArray.mk #[])],[.str (ByteArray.mk #[])]] k
   (fun (f:Int)(g i:Rs) =>
    Zjp f g i k))
def ZDI (y:ByteArray × ByteArray × Int):PV × Cs:=((PV.tuple [.str y.1,.str y.2.1,.int .i64 y.2.2]),[])
def ZVq (a b:Int)(d e:Rs):Option ((ByteArray × ByteArray × Int)) :=
 if 0≤a∧a < (d.length:Int) then
  if 0≤a∧a < (e.length:Int) then
   Option.bind (d[(Int.toNat a)]?) fun f =>
   Option.bind (f[0]?) fun g =>
   Option.bind (PV.asS g) fun i =>
   Option.bind (e[(Int.toNat a)]?) fun j =>
   Option.bind (j[0]?) fun l =>
   Option.bind (PV.asS l) fun o =>
   some (i,o,b)
  else none
 else none
theorem ZRB {R:Type} (a b:Int)(d e:Rs)(k0:ByteArray→ByteArray→Int→Option R):Tw (ZVq a b d e) (Zrp a b d e k0) (fun s=>match s with | (a0,a1,a2)=>k0 a0 a1 a2):=by
 unfold ZVq Zrp
 refine Zqa fun _=>?_
 refine Zqa fun _=>?_
 intro s hs
 obtain ⟨f,g,hs⟩:=Zba hs
 obtain ⟨i,j,hs⟩:=Zba hs
 obtain ⟨l,o,hs⟩:=Zba hs
 obtain ⟨q,t,hs⟩:=Zba hs
 obtain ⟨u,v,hs⟩:=Zba hs
 obtain ⟨z,A,hs⟩:=Zba hs
 cases hs
 simp only [g,j,o,t,v,A,Option.bind_some,cond_true,cond_false,if_true,if_false,ite_true,ite_false,ZGa,and_self,true_and,and_true,eq_self,not_true_eq_false,not_false_eq_true,Bool.false_eq_true,reduceCtorEq]
def Zbr (a:Int)(b:Bool)(d e:Rs):Option ((ByteArray × ByteArray × Int) ⊕ (Int × Rs × Rs)) :=
 cond b (
  some (Sum.inl ((ByteArray.mk #[]),(ByteArray.mk #[]),0))) (
  some (Sum.inr (a,d,e)))
theorem ZPB {R:Type} (a:Int)(b:Bool)(d e:Rs)(k0:ByteArray→ByteArray→Int→Option R)(k1:Int→Rs→Rs→Option R):Tw (Zbr a b d e) (Zsp a b d e k0 k1) (fun s=>match s with | (Sum.inl (a0,a1,a2))=>k0 a0 a1 a2 | (Sum.inr (a0,a1,a2))=>k1 a0 a1 a2):=by
 unfold Zbr Zsp
 refine Zha (fun _=>?_) (fun _=>?_)
 ·exact Zda rfl
 ·exact Zda rfl
def Z9q (a:Int)(b d:Rs):Option ((ByteArray × ByteArray × Int)) :=
 if 0≤a∧a < (d.length:Int) then
  Option.bind (d[(Int.toNat a)]?) fun e =>
  Option.bind (e[0]?) fun f =>
  Option.bind (PV.asS f) fun g =>
  cond (((g).size:Int) ==(4:Int)) (
   Option.bind (ZVq a 1 b d) fun s=>match s with
    | (i,j,l) =>
     some (i,j,l)) (
   Option.bind (ZVq a 0 b d) fun s=>match s with
    | (o,q,t) =>
     some (o,q,t))
 else none
theorem ZqB {R:Type} (a:Int)(b d:Rs)(k0:ByteArray→ByteArray→Int→Option R):Tw (Z9q a b d) (Zjp a b d k0) (fun s=>match s with | (a0,a1,a2)=>k0 a0 a1 a2):=by
 unfold Z9q Zjp
 refine Zqa fun _=>?_
 refine Zaa fun e _=>?_
 refine Zaa fun f _=>?_
 refine Zaa fun g _=>?_
 refine Zha (fun _=>?_) (fun _=>?_)
 ·refine Zma (ZRB _ _ _ _ _) (fun s=>?_)
  rcases s with ⟨i,j,l⟩
  ·exact Zda rfl
 ·refine Zma (ZRB _ _ _ _ _) (fun s=>?_)
  rcases s with ⟨o,q,t⟩
  ·exact Zda rfl
def ZQl (a:Int):Option (ByteArray × ByteArray × Int) :=
 cond (decide (a < (1:Int))) (
  Option.bind (Zbr a true [[.str (ByteArray.mk #[])],[.str (ByteArray.mk #[97,100,100])],[.str (ByteArray.mk #[100,101,108])],[.str (ByteArray.mk #[109,111,118])],[.str (ByteArray.mk #[108,111,99,107])],[.str (ByteArray.mk #[102,114,101,101])],[.str (ByteArray.mk #[105,99,101])],[.str (ByteArray.mk #[116,104,97,119])],[.str (ByteArray.mk #[111,112,116])],[.str (ByteArray.mk #[117,110,100,111])],[.str (ByteArray.mk #[114,101,100,111])],[.str (ByteArray.mk #[115,104,111,119])],[.str (ByteArray.mk #[112,111,111,108])],[.str (ByteArray.mk #[99,111,115,116])]] [[.str (ByteArray.mk #[])],[.str (ByteArray.mk #[115,99,105,106])],[.str (ByteArray.mk #[115])],[.str (ByteArray.mk #[115,99,105,106])],[.str (ByteArray.mk #[115])],[.str (ByteArray.mk #[115])],[.str (ByteArray.mk #[99])],[.str (ByteArray.mk #[99])],[.str (ByteArray.mk #[98,120,99,100])],[.str (ByteArray.mk #[])],[.str (ByteArray.mk #[])],[.str (ByteArray.mk #[99])],[.str (ByteArray.mk #[])],[.str (ByteArray.mk #[])]]) fun s=>match s with
   | (Sum.inl (s2,s3,i4)) =>
    some (s2,s3,i4)
   | (Sum.inr (b,d,e)) =>
    Option.bind (Z9q b d e) fun s=>match s with
     | (s8,s9,f) =>
      some (s8,s9,f)) (
  Option.bind (Zbr a (decide (a > (13:Int))) [[.str (ByteArray.mk #[])],[.str (ByteArray.mk #[97,100,100])],[.str (ByteArray.mk #[100,101,108])],[.str (ByteArray.mk #[109,111,118])],[.str (ByteArray.mk #[108,111,99,107])],[.str (ByteArray.mk #[102,114,101,101])],[.str (ByteArray.mk #[105,99,101])],[.str (ByteArray.mk #[116,104,97,119])],[.str (ByteArray.mk #[111,112,116])],[.str (ByteArray.mk #[117,110,100,111])],[.str (ByteArray.mk #[114,101,100,111])],[.str (ByteArray.mk #[115,104,111,119])],[.str (ByteArray.mk #[112,111,111,108])],[.str (ByteArray.mk #[99,111,115,116])]] [[.str (ByteArray.mk #[])],[.str (ByteArray.mk #[115,99,105,106])],[.str (ByteArray.mk #[115])],[.str (ByteArray.mk #[115,99,105,106])],[.str (ByteArray.mk #[115])],[.str (ByteArray.mk #[115])],[.str (ByteArray.mk #[99])],[.str (ByteArray.mk #[99])],[.str (ByteArray.mk #[98,120,99,100])],[.str (ByteArray.mk #[])],[.str (ByteArray.mk #[])],[.str (ByteArray.mk #[99])],[.str (ByteArray.mk #[])],[.str (ByteArray.mk #[])]]) fun s=>match s with
   | (Sum.inl (g,i,j)) =>
    some (g,i,j)
   | (Sum.inr (l,o,q)) =>
    Option.bind (Z9q l o q) fun s=>match s with
     | (t,u,v) =>
      some (t,u,v))
theorem ZrL {R:Type} (a:Int)(k:ByteArray→ByteArray→Int→Option R):Tw (ZQl a) (Zqr  a k) (fun s=>match s with | (a0,a1,a2)=>k a0 a1 a2):=by
 unfold ZQl Zqr
 refine Zha (fun _=>?_) (fun _=>?_)
 ·refine Zma (ZPB _ _ _ _ _ _) (fun s=>?_)
  rcases s with ⟨s2,s3,i4⟩ | ⟨b,d,e⟩
  ·exact Zda rfl
  ·refine Zma (ZqB _ _ _ _) (fun s=>?_)
   rcases s with ⟨s8,s9,f⟩
   ·exact Zda rfl
 ·refine Zma (ZPB _ _ _ _ _ _) (fun s=>?_)
  rcases s with ⟨g,i,j⟩ | ⟨l,o,q⟩
  ·exact Zda rfl
  ·refine Zma (ZqB _ _ _ _) (fun s=>?_)
   rcases s with ⟨t,u,v⟩
   ·exact Zda rfl
theorem ZoL:∀ (a:Int)(y:ByteArray × ByteArray × Int),ZQl a=some y→∀ (R:Type)(k:ByteArray→ByteArray→Int→Option R),Zqr  a k=k y.1 y.2.1 y.2.2:=fun a y h=>fun R k=>ZrL a k y h
def Z4C:Cs→Option (ByteArray × ByteArray × Int)
 | [.int .i64 a]=>ZQl a
 | _=>none
def ZRs:List (Nat × Cal):=[]
def ZhC:Ctr:=⟨[none],ByteArray × ByteArray × Int,Z4C,ZDI,true,.d⟩
def Zch:List (Nat × LC):=[(4000005,⟨[0,5,6,15],[],[],[],[]⟩),
 (6000005,⟨[2,3,4],[],[],[],[]⟩),
 (5000005,⟨[0,5,6],[],[],[],[]⟩),
 (4000009,⟨[0,5,6,7],[],[],[],[]⟩),
 (4000006,⟨[0,5,6],[],[],[],[]⟩),
 (6000009,⟨[2,3,4],[],[],[],[]⟩),
 (6000006,⟨[2,3,4],[],[],[],[]⟩)]
def Zpw:SP:=⟨Zea .undef [(0,(.val (.int .i64))),(5,(.ow 0)),(6,(.ow 1)),(7,(.val (.int .i64)))] 0 31,[(.row 1),(.row 1)],[]⟩
def Zcx:SP:=⟨Zea .undef [(0,(.val (.int .i64))),(5,(.ow 0)),(6,(.ow 1)),(15,(.val .bool))] 0 31,[(.row 1),(.row 1)],[]⟩
def ZXw:SP:=⟨Zea .undef [(0,(.val (.int .i64))),(5,(.ow 0)),(6,(.ow 1))] 0 31,[(.row 1),(.row 1)],[]⟩
def ZYE:Nat→Option SP
 | _=>none
def ZSB:Nat→Option SP
 | 9=>some Zpw
 | 5=>some Zcx
 | 6=>some ZXw
 | _=>none
def Znt (n:Nat)(ls:List Leaf)(R:Type)(k:Ex→St→Option R):Option R :=
 match ls with
 | [.int a,.int b,.rows d,.rows e]=>Zrp a b d e (fun f g i=>k .ret ⟨Zea .undef [(2,(TV.val (PV.str f))),(3,(TV.val (PV.str g))),(4,(TV.val (PV.int .i64 i)))] 0 31,[],[]⟩)
 | _=>none
def Zit (n:Nat)(ls:List Leaf)(R:Type)(k:Ex→St→Option R):Option R :=
 match ls with
 | [.int a,.bool b,.rows d,.rows e]=>Zsp a b d e (fun f g i=>k .ret ⟨Zea .undef [(2,(TV.val (PV.str f))),(3,(TV.val (PV.str g))),(4,(TV.val (PV.int .i64 i)))] 0 31,[],[]⟩)
   (fun j l o=>k .normal ⟨Zea .undef [(0,(TV.val (PV.int .i64 j))),(5,(TV.ow 0)),(6,(TV.ow 1))] 0 31,[(Ob.row l 1),(Ob.row o 1)],[]⟩)
 | _=>none
def Zot (n:Nat)(ls:List Leaf)(R:Type)(k:Ex→St→Option R):Option R :=
 match ls with
 | [.int a,.rows b,.rows d]=>Zjp a b d (fun e f g=>k .ret ⟨Zea .undef [(2,(TV.val (PV.str e))),(3,(TV.val (PV.str f))),(4,(TV.val (PV.int .i64 g)))] 0 31,[],[]⟩)
 | _=>none
def ZLJ (n key:Nat) (ls:List Leaf) (R:Type) (k:Ex→St→Option R):Option R :=
 match key with
 | _=>none
def ZOI (n key:Nat) (ls:List Leaf) (R:Type) (k:Ex→St→Option R):Option R :=
 match key with
 | 9=>Znt n ls R k
 | 5=>Zit n ls R k
 | 6=>Zot n ls R k
 | _=>none
def ZKy:Code→Bool:=onKeys [6,5,9]
def ZZw:Nat→Loops:=patL (Zsa Zch) ZYE ZLJ (ZCa Zch) ZKy ZSB ZOI
theorem ZmH (n:Nat)(a:Int)(b d:Rs)  (R:Type) (k:Ex→St→Option R) :
  Z0a T G0 (Zja ZRs) (ZCa Zch) (ZZw n) (Zia [1,1,1,1] (Zca Tryz.f34)) (Zoa ZXw [.int a,.rows b,.rows d]) R k=Zot n [.int a,.rows b,.rows d] R k:=by kernel_rfl
theorem Z8H (n:Nat)(a:Int)(b:Bool)(d e:Rs)  (R:Type) (k:Ex→St→Option R) :
  Z0a T G0 (Zja ZRs) (ZCa Zch) (ZZw n) (Zia [1,1,1,0,1] (Zca Tryz.f34)) (Zoa Zcx [.int a,.bool b,.rows d,.rows e]) R k=Zit n [.int a,.bool b,.rows d,.rows e] R k:=by kernel_rfl
theorem ZlH (n:Nat)(a b:Int)(d e:Rs)  (R:Type) (k:Ex→St→Option R) :
  Z0a T G0 (Zja ZRs) (ZCa Zch) (ZZw n) (Zia [1,1,1,1,1,1] (Zca Tryz.f34)) (Zoa Zpw [.int a,.int b,.rows d,.rows e]) R k=Znt n [.int a,.int b,.rows d,.rows e] R k:=by kernel_rfl
theorem ZqL (a:Int) :
  funK T G0 (Zja ZRs) (ZZw 0) .d true [none] (Zfa Tryz.f34) [.int .i64 a]=Zqr  a (fun a0 a1 a2=>some (ZDI (a0,a1,a2))):=by kernel_rfl
theorem Z3K {ps:Cs} {y:ByteArray × ByteArray × Int} (h:Z4C ps=some y):∃ (a:Int),ps=[.int .i64 a]:=by
 unfold Z4C at h
 split at h
 ·exact ⟨_,rfl⟩
 ·cases h
theorem ZUz:Zpa (Zca Tryz.f34)=[]:=by kernel_rfl
theorem ZrJ:(ZAa (Zca Tryz.f34)).filter ZKy=[Zia [1,1,1,1] (Zca Tryz.f34),Zia [1,1,1,0,1] (Zca Tryz.f34),Zia [1,1,1,1,1,1] (Zca Tryz.f34)]:=by kernel_rfl
theorem ZTI (hΓ:Zga Tryz.prog G0 ZRs) (hok:∀ (a:Int)(y:ByteArray × ByteArray × Int),ZQl a=some y→∀ (R:Type)(k:ByteArray→ByteArray→Int→Option R),Zqr  a k=k y.1 y.2.1 y.2.2):Zka Tryz.prog G0 34 ZhC:=by
 refine ZHa mixed tOk (Zna hΓ) Tryz.func34 rfl rfl rfl rfl (F:=Zfa Tryz.f34) (ZBa Zch) (pat:=ZYE) (L:=ZLJ) (ZFa Zch) (on:=ZKy) (patj:=ZSB) (J:=ZOI) (fun c hc ls R k=>?_) (fun c hc p hp m ls R k r h=>?_) (fun c hc p hp m ls R k r h=>?_) (fun ps x h=>?_)
 ·rw [show (Zfa Tryz.f34).code=Zca Tryz.f34 from rfl,ZUz] at hc
  cases hc
 ·rw [show (Zfa Tryz.f34).code=Zca Tryz.f34 from rfl,ZUz] at hc
  cases hc
 ·rw [show (Zfa Tryz.f34).code=Zca Tryz.f34 from rfl,ZrJ] at hc
  simp only [List.mem_cons,List.not_mem_nil,or_false] at hc
  rcases hc with rfl | rfl | rfl
  ·obtain rfl:ZXw=p:=Option.some.inj hp
   change Zot m ls R k=some r at h
   have h':=h
   unfold Zot at h'
   split at h'
   ·exact (ZmH m _ _ _ R k).trans h
   ·cases h'
  ·obtain rfl:Zcx=p:=Option.some.inj hp
   change Zit m ls R k=some r at h
   have h':=h
   unfold Zit at h'
   split at h'
   ·exact (Z8H m _ _ _ _ R k).trans h
   ·cases h'
  ·obtain rfl:Zpw=p:=Option.some.inj hp
   change Znt m ls R k=some r at h
   have h':=h
   unfold Znt at h'
   split at h'
   ·exact (ZlH m _ _ _ _ R k).trans h
   ·cases h'
 ·obtain ⟨y,hy,hx⟩:=Zba h
  cases hx
  obtain ⟨a,rfl⟩:=Z3K hy
  exact ⟨0,(ZqL a).trans (hok a y hy _ _)⟩
def ZIs {R:Type} (a:Int)(k:Int→Int→Int→Int→Int→Int→Int→Int→Option R):Option R :=
 k a 0 0 0 (-1) 0 0 (-1)
def ZhJ (y:Int × Int × Int × Int × Int × Int × Int × Int):PV × Cs:=((PV.agg [.int .i64 y.1,.int .i64 y.2.1,.int .i64 y.2.2.1,.int .i64 y.2.2.2.1,.int .i64 y.2.2.2.2.1,.int .i64 y.2.2.2.2.2.1,.int .i64 y.2.2.2.2.2.2.1,.int .i64 y.2.2.2.2.2.2.2]),[])
def Zts (a:Int):Option (Int × Int × Int × Int × Int × Int × Int × Int):=ZIs a fun a0 a1 a2 a3 a4 a5 a6 a7=>some (a0,a1,a2,a3,a4,a5,a6,a7)
def ZxC:Cs→Option (Int × Int × Int × Int × Int × Int × Int × Int)
 | [.int .i64 a]=>Zts a
 | _=>none
def ZCJ:List (Nat × Cal):=[]
def ZyC:Ctr:=⟨[none],Int × Int × Int × Int × Int × Int × Int × Int,ZxC,ZhJ,true,.d⟩
theorem ZmL (a:Int) :
  funK T G0 (Zja ZCJ) noL .d true [none] (Zfa Tryz.f35) [.int .i64 a]=ZIs  a (fun a0 a1 a2 a3 a4 a5 a6 a7=>some (ZhJ (a0,a1,a2,a3,a4,a5,a6,a7))):=by kernel_rfl
theorem ZXK {ps:Cs} {y:Int × Int × Int × Int × Int × Int × Int × Int} (h:ZxC ps=some y):∃ (a:Int),ps=[.int .i64 a]:=by
 unfold ZxC at h
 split at h
 ·exact ⟨_,rfl⟩
 ·cases h
theorem Z4K {R:Type} (a:Int)(k:Int→Int→Int→Int→Int→Int→Int→Int→Option R):ZIs a k=Option.bind (ZIs a fun a0 a1 a2 a3 a4 a5 a6 a7=>some (a0,a1,a2,a3,a4,a5,a6,a7)) fun y=>k y.1 y.2.1 y.2.2.1 y.2.2.2.1 y.2.2.2.2.1 y.2.2.2.2.2.1 y.2.2.2.2.2.2.1 y.2.2.2.2.2.2.2:=by
 unfold ZIs
 first | rfl | simp only [Option.bind_assoc,Zya,Zxa,Option.bind_some,Option.bind_none]
theorem ZGJ (hΓ:Zga Tryz.prog G0 ZCJ):Zka Tryz.prog G0 35 ZyC:=by
 refine ZIa mixed tOk (Zna hΓ) Tryz.func35 rfl rfl rfl rfl (F:=Zfa Tryz.f35) (fun ps x h=>?_)
 obtain ⟨y,hy,hx⟩:=Zba h
 cases hx
 obtain ⟨a,rfl⟩:=ZXK hy
 have hy':Zts a=some y:=hy
 refine ⟨noL,ZKa _,(ZmL a).trans ?_⟩
 unfold Zts at hy'
 rw [Z4K,hy']
 rfl
def Zip {R:Type} (n:Nat)(a:ByteArray)(b:Bool)(d e:Int)(f:Bool)(k0:Int→Bool→Option R)(k1:ByteArray→Bool→Int→Int→Option R):Option R :=
 cond f (
  k0 0 false) (
  k1 a b d e)
def Ztp {R:Type} (n:Nat)(a:ByteArray)(b:Bool)(d e:Int)(k0:ByteArray→Bool→Int→Int→Option R):Option R :=
 Option.bind (idx (a).data.toList e) fun f =>
 k0 a b (IntKind.i64.wrap ((IntKind.i64.wrap ((10:Int) * d)) + (IntKind.i64.wrap (IntKind.u8.wrap ((f.toNat:Int) - (48:Int)))))) e
def Zgo {R:Type}:Nat→ByteArray→Bool→Int→Int→(Bool→Int→Option R)→(Int→Bool→Option R)→Option R
 | 0,_,_,_,_,_,_=>none
 | n + 1,s7,a,n9,b,k0,k1 =>
  cond (decide (b < ((s7).size:Int))) (
   Option.bind (idx (s7).data.toList b) fun d =>
   cond (decide ((d.toNat:Int) < (48:Int))) (
    Zip n s7 a n9 b true k1
     (fun (e:ByteArray)(f:Bool)(g i:Int) =>
      Ztp n e f g i
       (fun (j:ByteArray)(l:Bool)(o q:Int) =>
        Zgo n j l o (IntKind.i64.wrap (q + (1:Int))) k0 k1))) (
    Option.bind (idx (s7).data.toList b) fun t =>
    Zip n s7 a n9 b (decide ((t.toNat:Int) > (57:Int))) k1
     (fun (u:ByteArray)(v:Bool)(z A:Int) =>
      Ztp n u v z A
       (fun (B:ByteArray)(C:Bool)(D i32:Int) =>
        Zgo n B C D (IntKind.i64.wrap (i32 + (1:Int))) k0 k1)))) (
   k0 a n9)
def ZGi {R:Type} (n:Nat)(a:ByteArray)(b d:Bool)(k0:Int→Bool→Option R)(k1:ByteArray→Bool→Option R):Option R :=
 cond d (
  k0 0 false) (
  k1 a b)
def Zfj {R:Type} (n:Nat)(a:ByteArray)(b:Bool)(k0:Int→Bool→Option R):Option R :=
 Zgo n a b 0 0
  (fun (d:Bool)(e:Int) =>
   cond d (
    k0 (IntKind.i64.wrap (0 - e)) true) (
    k0 e true)) k0
def Z6r {R:Type} (n:Nat)(a:ByteArray)(b:Bool)(k0:Int→Bool→Option R):Option R :=
 cond (decide (((a).size:Int) < (1:Int))) (
  ZGi n a b true k0
   (fun (d:ByteArray)(e:Bool) =>
    Zfj n d e k0)) (
  cond (decide (((a).size:Int) > (18:Int))) (
   ZGi n a b true k0
    (fun (f:ByteArray)(g:Bool) =>
     Zfj n f g k0)) (
   Option.bind (idx (a).data.toList (0:Int)) fun i =>
   cond ((i.toNat:Int) ==(48:Int)) (
    cond (decide (((a).size:Int) > (1:Int))) (
     ZGi n a b true k0
      (fun (j:ByteArray)(l:Bool) =>
       Zfj n j l k0)) (
     ZGi n a b b k0
      (fun (o:ByteArray)(q:Bool) =>
       Zfj n o q k0))) (
    ZGi n a b false k0
     (fun (t:ByteArray)(u:Bool) =>
      Zfj n t u k0))))
def ZUs {R:Type} (n:Nat)(a:ByteArray)(b:Bool)(k0:Int→Bool→Option R):Option R :=
 cond b (
  if (0:Int)≤(1:Int)∧(1:Int)≤((a).size:Int)∧((a).size:Int)≤((a).size:Int) then
   Z6r n (ByteArray.extract a 1 (Int.toNat ((a).size:Int))) b k0
  else none) (
  Z6r n a b k0)
def Z1v {R:Type} (n:Nat)(s1:ByteArray)(k:Int→Bool→Option R):Option R :=
 cond (decide (((s1).size:Int) > (0:Int))) (
  Option.bind (idx (s1).data.toList (0:Int)) fun u2 =>
  ZUs n s1 ((u2.toNat:Int) ==(45:Int)) k) (
  ZUs n s1 false k)
def ZLK (y:Int × Bool):PV × Cs:=((PV.tuple [.int .i64 y.1,.bool y.2]),[])
def ZQq (n:Nat)(a:ByteArray)(b:Bool)(d e:Int)(f:Bool):Option ((Int × Bool) ⊕ (ByteArray × Bool × Int × Int)) :=
 cond f (
  some (Sum.inl (0,false))) (
  some (Sum.inr (a,b,d,e)))
theorem ZIB {R:Type} (n:Nat)(a:ByteArray)(b:Bool)(d e:Int)(f:Bool)(k0:Int→Bool→Option R)(k1:ByteArray→Bool→Int→Int→Option R):Tw (ZQq n a b d e f) (Zip n a b d e f k0 k1) (fun s=>match s with | (Sum.inl (a0,a1))=>k0 a0 a1 | (Sum.inr (a0,a1,a2,a3))=>k1 a0 a1 a2 a3):=by
 unfold ZQq Zip
 refine Zha (fun _=>?_) (fun _=>?_)
 ·exact Zda rfl
 ·exact Zda rfl
def ZOq (n:Nat)(a:ByteArray)(b:Bool)(d e:Int):Option ((ByteArray × Bool × Int × Int)) :=
 Option.bind (idx (a).data.toList e) fun f =>
 some (a,b,(IntKind.i64.wrap ((IntKind.i64.wrap ((10:Int) * d)) + (IntKind.i64.wrap (IntKind.u8.wrap ((f.toNat:Int) - (48:Int)))))),e)
theorem ZEB {R:Type} (n:Nat)(a:ByteArray)(b:Bool)(d e:Int)(k0:ByteArray→Bool→Int→Int→Option R):Tw (ZOq n a b d e) (Ztp n a b d e k0) (fun s=>match s with | (a0,a1,a2,a3)=>k0 a0 a1 a2 a3):=by
 unfold ZOq Ztp
 refine Zaa fun f _=>?_
 exact Zda rfl
def Zgp:Nat→ByteArray→Bool→Int→Int→Option ((Bool × Int) ⊕ (Int × Bool))
 | 0,_,_,_,_=>none
 | n + 1,s7,a,n9,b =>
  cond (decide (b < ((s7).size:Int))) (
   Option.bind (idx (s7).data.toList b) fun d =>
   cond (decide ((d.toNat:Int) < (48:Int))) (
    Option.bind (ZQq n s7 a n9 b true) fun s=>match s with
     | (Sum.inl (e,f)) =>
      some (Sum.inr (e,f))
     | (Sum.inr (g,i,j,l)) =>
      Option.bind (ZOq n g i j l) fun s=>match s with
       | (o,q,t,u) =>
        Zgp n o q t (IntKind.i64.wrap (u + (1:Int)))) (
    Option.bind (idx (s7).data.toList b) fun v =>
    Option.bind (ZQq n s7 a n9 b (decide ((v.toNat:Int) > (57:Int)))) fun s=>match s with
     | (Sum.inl (z,A)) =>
      some (Sum.inr (z,A))
     | (Sum.inr (B,C,D,E)) =>
      Option.bind (ZOq n B C D E) fun s=>match s with
       | (F,G,H,i32) =>
        Zgp n F G H (IntKind.i64.wrap (i32 + (1:Int))))) (
   some (Sum.inl (a,n9)))
theorem ZSK {R:Type} (n:Nat)(s7:ByteArray)(a:Bool)(n9 b:Int)(k0:Bool→Int→Option R)(k1:Int→Bool→Option R):Tw (Zgp n s7 a n9 b) (Zgo n s7 a n9 b k0 k1) (fun s=>match s with | (Sum.inl (a0,a1))=>k0 a0 a1 | (Sum.inr (a0,a1))=>k1 a0 a1):=by
 induction n generalizing s7 a n9 b with
 | zero=>exact Zwa
 | succ n ih =>
  unfold Zgp Zgo
  refine Zha (fun _=>?_) (fun _=>?_)
  ·refine Zaa fun d _=>?_
   refine Zha (fun _=>?_) (fun _=>?_)
   ·refine Zma (ZIB _ _ _ _ _ _ _ _) (fun s=>?_)
    rcases s with ⟨e,f⟩ | ⟨g,i,j,l⟩
    ·exact Zda rfl
    ·refine Zma (ZEB _ _ _ _ _ _) (fun s=>?_)
     rcases s with ⟨o,q,t,u⟩
     ·exact ih _ _ _ _
   ·refine Zaa fun v _=>?_
    refine Zma (ZIB _ _ _ _ _ _ _ _) (fun s=>?_)
    rcases s with ⟨z,A⟩ | ⟨B,C,D,E⟩
    ·exact Zda rfl
    ·refine Zma (ZEB _ _ _ _ _ _) (fun s=>?_)
     rcases s with ⟨F,G,H,i32⟩
     ·exact ih _ _ _ _
  ·exact Zda rfl
def Z6i (n:Nat)(a:ByteArray)(b d:Bool):Option ((Int × Bool) ⊕ (ByteArray × Bool)) :=
 cond d (
  some (Sum.inl (0,false))) (
  some (Sum.inr (a,b)))
theorem Z7m {R:Type} (n:Nat)(a:ByteArray)(b d:Bool)(k0:Int→Bool→Option R)(k1:ByteArray→Bool→Option R):Tw (Z6i n a b d) (ZGi n a b d k0 k1) (fun s=>match s with | (Sum.inl (a0,a1))=>k0 a0 a1 | (Sum.inr (a0,a1))=>k1 a0 a1):=by
 unfold Z6i ZGi
 refine Zha (fun _=>?_) (fun _=>?_)
 ·exact Zda rfl
 ·exact Zda rfl
def ZYi (n:Nat)(a:ByteArray)(b:Bool):Option ((Int × Bool)) :=
 Option.bind (Zgp n a b 0 0) fun s=>match s with
  | (Sum.inl (d,e)) =>
   cond d (
    some ((IntKind.i64.wrap (0 - e)),true)) (
    some (e,true))
  | (Sum.inr (f,g)) =>
   some (f,g)
theorem Zym {R:Type} (n:Nat)(a:ByteArray)(b:Bool)(k0:Int→Bool→Option R):Tw (ZYi n a b) (Zfj n a b k0) (fun s=>match s with | (a0,a1)=>k0 a0 a1):=by
 unfold ZYi Zfj
 refine Zma (ZSK _ _ _ _ _ _ _) (fun s=>?_)
 rcases s with ⟨d,e⟩ | ⟨f,g⟩
 ·refine Zha (fun _=>?_) (fun _=>?_)
  ·exact Zda rfl
  ·exact Zda rfl
 ·exact Zda rfl
def Zjt (n:Nat)(a:ByteArray)(b:Bool):Option ((Int × Bool)) :=
 cond (decide (((a).size:Int) < (1:Int))) (
  Option.bind (Z6i n a b true) fun s=>match s with
   | (Sum.inl (d,e)) =>
    some (d,e)
   | (Sum.inr (f,g)) =>
    Option.bind (ZYi n f g) fun s=>match s with
     | (i,j) =>
      some (i,j)) (
  cond (decide (((a).size:Int) > (18:Int))) (
   Option.bind (Z6i n a b true) fun s=>match s with
    | (Sum.inl (l,o)) =>
     some (l,o)
    | (Sum.inr (q,t)) =>
     Option.bind (ZYi n q t) fun s=>match s with
      | (u,v) =>
       some (u,v)) (
   Option.bind (idx (a).data.toList (0:Int)) fun z =>
   cond ((z.toNat:Int) ==(48:Int)) (
    cond (decide (((a).size:Int) > (1:Int))) (
     Option.bind (Z6i n a b true) fun s=>match s with
      | (Sum.inl (A,B)) =>
       some (A,B)
      | (Sum.inr (C,D)) =>
       Option.bind (ZYi n C D) fun s=>match s with
        | (E,F) =>
         some (E,F)) (
     Option.bind (Z6i n a b b) fun s=>match s with
      | (Sum.inl (G,H)) =>
       some (G,H)
      | (Sum.inr (I,J)) =>
       Option.bind (ZYi n I J) fun s=>match s with
        | (i64,K) =>
         some (i64,K))) (
    Option.bind (Z6i n a b false) fun s=>match s with
     | (Sum.inl (L,M)) =>
      some (L,M)
     | (Sum.inr (N,O)) =>
      Option.bind (ZYi n N O) fun s=>match s with
       | (Q,U) =>
        some (Q,U))))
theorem ZzE {R:Type} (n:Nat)(a:ByteArray)(b:Bool)(k0:Int→Bool→Option R):Tw (Zjt n a b) (Z6r n a b k0) (fun s=>match s with | (a0,a1)=>k0 a0 a1):=by
 unfold Zjt Z6r
 refine Zha (fun _=>?_) (fun _=>?_)
 ·refine Zma (Z7m _ _ _ _ _ _) (fun s=>?_)
  rcases s with ⟨d,e⟩ | ⟨f,g⟩
  ·exact Zda rfl
  ·refine Zma (Zym _ _ _ _) (fun s=>?_)
   rcases s with ⟨i,j⟩
   ·exact Zda rfl
 ·refine Zha (fun _=>?_) (fun _=>?_)
  ·refine Zma (Z7m _ _ _ _ _ _) (fun s=>?_)
   rcases s with ⟨l,o⟩ | ⟨q,t⟩
   ·exact Zda rfl
   ·refine Zma (Zym _ _ _ _) (fun s=>?_)
    rcases s with ⟨u,v⟩
    ·exact Zda rfl
  ·refine Zaa fun z _=>?_
   refine Zha (fun _=>?_) (fun _=>?_)
   ·refine Zha (fun _=>?_) (fun _=>?_)
    ·refine Zma (Z7m _ _ _ _ _ _) (fun s=>?_)
     rcases s with ⟨A,B⟩ | ⟨C,D⟩
     ·exact Zda rfl
     ·refine Zma (Zym _ _ _ _) (fun s=>?_)
      rcases s with ⟨E,F⟩
      ·exact Zda rfl
    ·refine Zma (Z7m _ _ _ _ _ _) (fun s=>?_)
     rcases s with ⟨G,H⟩ | ⟨I,J⟩
     ·exact Zda rfl
     ·refine Zma (Zym _ _ _ _) (fun s=>?_)
      rcases s with ⟨i64,K⟩
      ·exact Zda rfl
   ·refine Zma (Z7m _ _ _ _ _ _) (fun s=>?_)
    rcases s with ⟨L,M⟩ | ⟨N,O⟩
    ·exact Zda rfl
    ·refine Zma (Zym _ _ _ _) (fun s=>?_)
     rcases s with ⟨Q,U⟩
     ·exact Zda rfl
def Zqt (n:Nat)(a:ByteArray)(b:Bool):Option ((Int × Bool)) :=
 cond b (
  if (0:Int)≤(1:Int)∧(1:Int)≤((a).size:Int)∧((a).size:Int)≤((a).size:Int) then
   Option.bind (Zjt n (ByteArray.extract a 1 (Int.toNat ((a).size:Int))) b) fun s=>match s with
    | (d,e) =>
     some (d,e)
  else none) (
  Option.bind (Zjt n a b) fun s=>match s with
   | (f,g) =>
    some (f,g))
theorem ZOE {R:Type} (n:Nat)(a:ByteArray)(b:Bool)(k0:Int→Bool→Option R):Tw (Zqt n a b) (ZUs n a b k0) (fun s=>match s with | (a0,a1)=>k0 a0 a1):=by
 unfold Zqt ZUs
 refine Zha (fun _=>?_) (fun _=>?_)
 ·refine Zqa fun _=>?_
  refine Zma (ZzE _ _ _ _) (fun s=>?_)
  rcases s with ⟨d,e⟩
  ·exact Zda rfl
 ·refine Zma (ZzE _ _ _ _) (fun s=>?_)
  rcases s with ⟨f,g⟩
  ·exact Zda rfl
def Zso (s1:ByteArray):Option (Int × Bool) :=
 cond (decide (((s1).size:Int) > (0:Int))) (
  Option.bind (idx (s1).data.toList (0:Int)) fun u2 =>
  Option.bind (Zqt 9223372036854775808 s1 ((u2.toNat:Int) ==(45:Int))) fun s=>match s with
   | (i3,b4) =>
    some (i3,b4)) (
  Option.bind (Zqt 9223372036854775808 s1 false) fun s=>match s with
   | (i5,b6) =>
    some (i5,b6))
theorem ZGL {R:Type} (s1:ByteArray)(k:Int→Bool→Option R):Tw (Zso s1) (Z1v 9223372036854775808 s1 k) (fun s=>match s with | (a0,a1)=>k a0 a1):=by
 unfold Zso Z1v
 refine Zha (fun _=>?_) (fun _=>?_)
 ·refine Zaa fun u2 _=>?_
  refine Zma (ZOE _ _ _ _) (fun s=>?_)
  rcases s with ⟨i3,b4⟩
  ·exact Zda rfl
 ·refine Zma (ZOE _ _ _ _) (fun s=>?_)
  rcases s with ⟨i5,b6⟩
  ·exact Zda rfl
theorem ZCL:∀ (s1:ByteArray)(y:Int × Bool),Zso s1=some y→∃ n,∀ (R:Type)(k:Int→Bool→Option R),Z1v n s1 k=k y.1 y.2:=fun s1 y h=>⟨9223372036854775808,fun R k=>ZGL s1 k y h⟩
def ZuF:Cs→Option (Int × Bool)
 | [.str s1]=>Zso s1
 | _=>none
def ZDj:List (Nat × Cal):=[]
def ZbF:Ctr:=⟨[none],Int × Bool,ZuF,ZLK,true,.d⟩
def ZId:List (Nat × LC):=[(4000006,⟨[0,4,38],[],[],[],[]⟩),
 (4000005,⟨[0,4],[],[],[],[]⟩),
 (4000003,⟨[0,4],[],[],[],[]⟩),
 (6000006,⟨[2,3],[],[],[],[]⟩),
 (5000006,⟨[0,4],[],[],[],[]⟩),
 (6000005,⟨[2,3],[],[],[],[]⟩),
 (8,⟨[0,4,5,6],[],[],[],[]⟩),
 (4000007,⟨[0,4],[],[],[],[]⟩),
 (2000008,⟨[2,3],[],[],[],[]⟩),
 (4000012,⟨[0,4,5,6,54],[],[],[],[]⟩),
 (1008000,⟨[4,5],[],[],[],[]⟩),
 (6000003,⟨[2,3],[],[],[],[]⟩),
 (6000007,⟨[2,3],[],[],[],[]⟩),
 (6000012,⟨[2,3],[],[],[],[]⟩),
 (5000012,⟨[0,4,5,6],[],[],[],[]⟩),
 (4000013,⟨[0,4,5,6],[],[],[],[]⟩),
 (5000013,⟨[0,4,5,6],[],[],[],[]⟩)]
def Z0w:SP:=⟨Zea .undef [(0,(.val .str)),(4,(.val .bool)),(5,(.val (.int .i64))),(6,(.val (.int .i64))),(54,(.val .bool))] 0 67,[],[]⟩
def Zbx:SP:=⟨Zea .undef [(0,(.val .str)),(4,(.val .bool)),(5,(.val (.int .i64))),(6,(.val (.int .i64)))] 0 67,[],[]⟩
def ZsC:SP:=⟨Zea .undef [(0,(.val .str)),(4,(.val .bool)),(5,(.val (.int .i64))),(6,(.val (.int .i64)))] 0 67,[],[]⟩
def Z3y:SP:=⟨Zea .undef [(0,(.val .str)),(4,(.val .bool)),(38,(.val .bool))] 0 67,[],[]⟩
def Znz:SP:=⟨Zea .undef [(0,(.val .str)),(4,(.val .bool))] 0 67,[],[]⟩
def Zny:SP:=⟨Zea .undef [(0,(.val .str)),(4,(.val .bool))] 0 67,[],[]⟩
def Zez:SP:=⟨Zea .undef [(0,(.val .str)),(4,(.val .bool))] 0 67,[],[]⟩
def ZOG:Nat→Option SP
 | 8=>some ZsC
 | _=>none
def ZaE:Nat→Option SP
 | 12=>some Z0w
 | 13=>some Zbx
 | 6=>some Z3y
 | 7=>some Znz
 | 5=>some Zny
 | 3=>some Zez
 | _=>none
def ZGt (n:Nat)(ls:List Leaf)(R:Type)(k:Ex→St→Option R):Option R :=
 match ls with
 | [.str a,.bool b,.int d,.int e,.bool f]=>Zip n a b d e f (fun g i=>k .ret ⟨Zea .undef [(2,(TV.val (PV.int .i64 g))),(3,(TV.val (PV.bool i)))] 0 67,[],[]⟩)
   (fun j l o q=>k .normal ⟨Zea .undef [(0,(TV.val (PV.str j))),(4,(TV.val (PV.bool l))),(5,(TV.val (PV.int .i64 o))),(6,(TV.val (PV.int .i64 q)))] 0 67,[],[]⟩)
 | _=>none
def Zut (n:Nat)(ls:List Leaf)(R:Type)(k:Ex→St→Option R):Option R :=
 match ls with
 | [.str a,.bool b,.int d,.int e]=>Ztp n a b d e (fun f g i j=>k .normal ⟨Zea .undef [(0,(TV.val (PV.str f))),(4,(TV.val (PV.bool g))),(5,(TV.val (PV.int .i64 i))),(6,(TV.val (PV.int .i64 j)))] 0 67,[],[]⟩)
 | _=>none
def ZHo (n:Nat)(ls:List Leaf)(R:Type)(k:Ex→St→Option R):Option R :=
 match ls with
 | [.str s7,.bool a,.int n9,.int b]=>Zgo n s7 a n9 b (fun d e=>k (.exit 0) ⟨Zea .undef [(4,(TV.val (PV.bool d))),(5,(TV.val (PV.int .i64 e)))] 0 67,[],[]⟩)
   (fun f g=>k .ret ⟨Zea .undef [(2,(TV.val (PV.int .i64 f))),(3,(TV.val (PV.bool g)))] 0 67,[],[]⟩)
 | _=>none
def Z1w (n:Nat)(ls:List Leaf)(R:Type)(k:Ex→St→Option R):Option R :=
 match ls with
 | [.str a,.bool b,.bool d]=>ZGi n a b d (fun e f=>k .ret ⟨Zea .undef [(2,(TV.val (PV.int .i64 e))),(3,(TV.val (PV.bool f)))] 0 67,[],[]⟩)
   (fun g i=>k .normal ⟨Zea .undef [(0,(TV.val (PV.str g))),(4,(TV.val (PV.bool i)))] 0 67,[],[]⟩)
 | _=>none
def Zkw (n:Nat)(ls:List Leaf)(R:Type)(k:Ex→St→Option R):Option R :=
 match ls with
 | [.str a,.bool b]=>Zfj n a b (fun d e=>k .ret ⟨Zea .undef [(2,(TV.val (PV.int .i64 d))),(3,(TV.val (PV.bool e)))] 0 67,[],[]⟩)
 | _=>none
def Zuw (n:Nat)(ls:List Leaf)(R:Type)(k:Ex→St→Option R):Option R :=
 match ls with
 | [.str a,.bool b]=>Z6r n a b (fun d e=>k .ret ⟨Zea .undef [(2,(TV.val (PV.int .i64 d))),(3,(TV.val (PV.bool e)))] 0 67,[],[]⟩)
 | _=>none
def Z6w (n:Nat)(ls:List Leaf)(R:Type)(k:Ex→St→Option R):Option R :=
 match ls with
 | [.str a,.bool b]=>ZUs n a b (fun d e=>k .ret ⟨Zea .undef [(2,(TV.val (PV.int .i64 d))),(3,(TV.val (PV.bool e)))] 0 67,[],[]⟩)
 | _=>none
def ZIK (n key:Nat) (ls:List Leaf) (R:Type) (k:Ex→St→Option R):Option R :=
 match key with
 | 8=>ZHo n ls R k
 | _=>none
def ZMK (n key:Nat) (ls:List Leaf) (R:Type) (k:Ex→St→Option R):Option R :=
 match key with
 | 12=>ZGt n ls R k
 | 13=>Zut n ls R k
 | 6=>Z1w n ls R k
 | 7=>Zkw n ls R k
 | 5=>Zuw n ls R k
 | 3=>Z6w n ls R k
 | _=>none
def Z3B:Code→Bool:=onKeys [3,5,7,6,13,12]
def Z8l:Nat→Loops:=patL (Zsa ZId) ZOG ZIK (ZCa ZId) Z3B ZaE ZMK
theorem Z7J (n:Nat)(s7:ByteArray)(a:Bool)(n9 b:Int)  (R:Type) (k:Ex→St→Option R) :
  Zza T G0 (Zja ZDj) (Zsa ZId) (Z8l n) (Zia [1,1,1,1,1,0,1,0,0] (Zca Tryz.f36)) (Zoa ZsC [.str s7,.bool a,.int n9,.int b]) R k=ZHo (n + 1) [.str s7,.bool a,.int n9,.int b] R k:=by kernel_rfl
theorem ZwJ (n:Nat)(a:ByteArray)(b:Bool)  (R:Type) (k:Ex→St→Option R) :
  Z0a T G0 (Zja ZDj) (ZCa ZId) (Z8l n) (Zia [1,1] (Zca Tryz.f36)) (Zoa Zez [.str a,.bool b]) R k=Z6w n [.str a,.bool b] R k:=by kernel_rfl
theorem Z6I (n:Nat)(a:ByteArray)(b:Bool)  (R:Type) (k:Ex→St→Option R) :
  Z0a T G0 (Zja ZDj) (ZCa ZId) (Z8l n) (Zia [1,1,1] (Zca Tryz.f36)) (Zoa Zny [.str a,.bool b]) R k=Zuw n [.str a,.bool b] R k:=by kernel_rfl
theorem ZMJ (n:Nat)(a:ByteArray)(b:Bool)  (R:Type) (k:Ex→St→Option R) :
  Z0a T G0 (Zja ZDj) (ZCa ZId) (Z8l n) (Zia [1,1,1,1] (Zca Tryz.f36)) (Zoa Znz [.str a,.bool b]) R k=Zkw n [.str a,.bool b] R k:=by kernel_rfl
theorem ZAI (n:Nat)(a:ByteArray)(b d:Bool)  (R:Type) (k:Ex→St→Option R) :
  Z0a T G0 (Zja ZDj) (ZCa ZId) (Z8l n) (Zia [1,1,1,0,1] (Zca Tryz.f36)) (Zoa Z3y [.str a,.bool b,.bool d]) R k=Z1w n [.str a,.bool b,.bool d] R k:=by kernel_rfl
theorem ZhH (n:Nat)(a:ByteArray)(b:Bool)(d e:Int)  (R:Type) (k:Ex→St→Option R) :
  Z0a T G0 (Zja ZDj) (ZCa ZId) (Z8l n) (Zia [1,1,1,1,1,0,1,0,0,1,0,0,1] (Zca Tryz.f36)) (Zoa Zbx [.str a,.bool b,.int d,.int e]) R k=Zut n [.str a,.bool b,.int d,.int e] R k:=by kernel_rfl
theorem ZbI (n:Nat)(a:ByteArray)(b:Bool)(d e:Int)(f:Bool)  (R:Type) (k:Ex→St→Option R) :
  Z0a T G0 (Zja ZDj) (ZCa ZId) (Z8l n) (Zia [1,1,1,1,1,0,1,0,0,1,0,0,0,1] (Zca Tryz.f36)) (Zoa Z0w [.str a,.bool b,.int d,.int e,.bool f]) R k=ZGt n [.str a,.bool b,.int d,.int e,.bool f] R k:=by kernel_rfl
theorem ZFL (n:Nat)(s1:ByteArray) :
  funK T G0 (Zja ZDj) (Z8l n) .d true [none] (Zfa Tryz.f36) [.str s1]=Z1v n  s1 (fun a0 a1=>some (ZLK (a0,a1))):=by kernel_rfl
theorem ZBL {ps:Cs} {y:Int × Bool} (h:ZuF ps=some y):∃ (s1:ByteArray),ps=[.str s1]:=by
 unfold ZuF at h
 split at h
 ·exact ⟨_,rfl⟩
 ·cases h
theorem ZyB:Zpa (Zca Tryz.f36)=[Zia [1,1,1,1,1,0,1,0,0] (Zca Tryz.f36)]:=by kernel_rfl
theorem ZfK:(ZAa (Zca Tryz.f36)).filter Z3B=[Zia [1,1] (Zca Tryz.f36),Zia [1,1,1] (Zca Tryz.f36),Zia [1,1,1,1] (Zca Tryz.f36),Zia [1,1,1,0,1] (Zca Tryz.f36),Zia [1,1,1,1,1,0,1,0,0,1,0,0,1] (Zca Tryz.f36),Zia [1,1,1,1,1,0,1,0,0,1,0,0,0,1] (Zca Tryz.f36)]:=by kernel_rfl
theorem ZDK (hΓ:Zga Tryz.prog G0 ZDj) (hok:∀ (s1:ByteArray)(y:Int × Bool),Zso s1=some y→∃ n,∀ (R:Type)(k:Int→Bool→Option R),Z1v n  s1 k=k y.1 y.2):Zka Tryz.prog G0 36 ZbF:=by
 refine ZHa mixed tOk (Zna hΓ) Tryz.func36 rfl rfl rfl rfl (F:=Zfa Tryz.f36) (ZBa ZId) (pat:=ZOG) (L:=ZIK) (ZFa ZId) (on:=Z3B) (patj:=ZaE) (J:=ZMK) (fun c hc ls R k=>?_) (fun c hc p hp m ls R k r h=>?_) (fun c hc p hp m ls R k r h=>?_) (fun ps x h=>?_)
 ·rw [show (Zfa Tryz.f36).code=Zca Tryz.f36 from rfl,ZyB] at hc
  simp only [List.mem_cons,List.not_mem_nil,or_false] at hc
  rcases hc with rfl
  ·show ZHo 0 ls R k=none
   unfold ZHo
   split
   ·rfl
   ·rfl
 ·rw [show (Zfa Tryz.f36).code=Zca Tryz.f36 from rfl,ZyB] at hc
  simp only [List.mem_cons,List.not_mem_nil,or_false] at hc
  rcases hc with rfl
  ·obtain rfl:ZsC=p:=Option.some.inj hp
   change ZHo (m + 1) ls R k=some r at h
   have h':=h
   unfold ZHo at h'
   split at h'
   ·exact (Z7J m _ _ _ _ R k).trans h
   ·cases h'
 ·rw [show (Zfa Tryz.f36).code=Zca Tryz.f36 from rfl,ZfK] at hc
  simp only [List.mem_cons,List.not_mem_nil,or_false] at hc
  rcases hc with rfl | rfl | rfl | rfl | rfl | rfl
  ·obtain rfl:Zez=p:=Option.some.inj hp
   change Z6w m ls R k=some r at h
   have h':=h
   unfold Z6w at h'
   split at h'
   ·exact (ZwJ m _ _ R k).trans h
   ·cases h'
  ·obtain rfl:Zny=p:=Option.some.inj hp
   change Zuw m ls R k=some r at h
   have h':=h
   unfold Zuw at h'
   split at h'
   ·exact (Z6I m _ _ R k).trans h
   ·cases h'
  ·obtain rfl:Znz=p:=Option.some.inj hp
   change Zkw m ls R k=some r at h
   have h':=h
   unfold Zkw at h'
   split at h'
   ·exact (ZMJ m _ _ R k).trans h
   ·cases h'
  ·obtain rfl:Z3y=p:=Option.some.inj hp
   change Z1w m ls R k=some r at h
   have h':=h
   unfold Z1w at h'
   split at h'
   ·exact (ZAI m _ _ _ R k).trans h
   ·cases h'
  ·obtain rfl:Zbx=p:=Option.some.inj hp
   change Zut m ls R k=some r at h
   have h':=h
   unfold Zut at h'
   split at h'
   ·exact (ZhH m _ _ _ _ R k).trans h
   ·cases h'
  ·obtain rfl:Z0w=p:=Option.some.inj hp
   change ZGt m ls R k=some r at h
   have h':=h
   unfold ZGt at h'
   split at h'
   ·exact (ZbI m _ _ _ _ _ R k).trans h
   ·cases h'
 ·obtain ⟨y,hy,hx⟩:=Zba h
  cases hx
  obtain ⟨s1,rfl⟩:=ZBL hy
  obtain ⟨n,hn⟩:=hok s1 y hy
  exact ⟨n,(ZFL n s1).trans (hn _ _)⟩
def ZZv {R:Type} (c1 c2 c3 c4 c5 c6 c7 c8 f9 a:Int)(k:Int→Int→Int→Int→Int→Int→Int→Int→Option R):Option R :=
 cond (f9 ==(115:Int)) (
  k c1 a c3 c4 c5 c6 c7 c8) (
  cond (f9 ==(99:Int)) (
   k c1 c2 a c4 c5 c6 c7 c8) (
   cond (f9 ==(105:Int)) (
    k c1 c2 c3 a c5 c6 c7 c8) (
    cond (f9 ==(106:Int)) (
     k c1 c2 c3 c4 a c6 c7 c8) (
     cond (f9 ==(98:Int)) (
      k c1 c2 c3 c4 c5 a c7 c8) (
      cond (f9 ==(120:Int)) (
       k c1 c2 c3 c4 c5 c6 a c8) (
       k c1 c2 c3 c4 c5 c6 c7 a))))))
def ZKK (y:Int × Int × Int × Int × Int × Int × Int × Int):PV × Cs:=((PV.agg [.int .i64 y.1,.int .i64 y.2.1,.int .i64 y.2.2.1,.int .i64 y.2.2.2.1,.int .i64 y.2.2.2.2.1,.int .i64 y.2.2.2.2.2.1,.int .i64 y.2.2.2.2.2.2.1,.int .i64 y.2.2.2.2.2.2.2]),[])
def ZKj (c1 c2 c3 c4 c5 c6 c7 c8 f9 a:Int):Option (Int × Int × Int × Int × Int × Int × Int × Int):=ZZv c1 c2 c3 c4 c5 c6 c7 c8 f9 a fun a0 a1 a2 a3 a4 a5 a6 a7=>some (a0,a1,a2,a3,a4,a5,a6,a7)
def ZjF:Cs→Option (Int × Int × Int × Int × Int × Int × Int × Int)
 | [.agg [.int .i64 c1,.int .i64 c2,.int .i64 c3,.int .i64 c4,.int .i64 c5,.int .i64 c6,.int .i64 c7,.int .i64 c8],.int .u8 f9,.int .i64 a]=>ZKj c1 c2 c3 c4 c5 c6 c7 c8 f9 a
 | _=>none
def ZJK:List (Nat × Cal):=[]
def ZqG:Ctr:=⟨[none,none,none],Int × Int × Int × Int × Int × Int × Int × Int,ZjF,ZKK,true,.d⟩
theorem ZDL (c1 c2 c3 c4 c5 c6 c7 c8 f9 a:Int) :
  funK T G0 (Zja ZJK) noL .d true [none,none,none] (Zfa Tryz.f37) [.agg [.int .i64 c1,.int .i64 c2,.int .i64 c3,.int .i64 c4,.int .i64 c5,.int .i64 c6,.int .i64 c7,.int .i64 c8],.int .u8 f9,.int .i64 a]=ZZv  c1 c2 c3 c4 c5 c6 c7 c8 f9 a (fun a0 a1 a2 a3 a4 a5 a6 a7=>some (ZKK (a0,a1,a2,a3,a4,a5,a6,a7))):=by kernel_rfl
theorem ZxL {ps:Cs} {y:Int × Int × Int × Int × Int × Int × Int × Int} (h:ZjF ps=some y):∃ (c1:Int) (c2:Int) (c3:Int) (c4:Int) (c5:Int) (c6:Int) (c7:Int) (c8:Int) (f9:Int) (a:Int),ps=[.agg [.int .i64 c1,.int .i64 c2,.int .i64 c3,.int .i64 c4,.int .i64 c5,.int .i64 c6,.int .i64 c7,.int .i64 c8],.int .u8 f9,.int .i64 a]:=by
 unfold ZjF at h
 split at h
 ·exact ⟨_,_,_,_,_,_,_,_,_,_,rfl⟩
 ·cases h
theorem ZtL {R:Type} (c1 c2 c3 c4 c5 c6 c7 c8 f9 a:Int)(k:Int→Int→Int→Int→Int→Int→Int→Int→Option R):ZZv c1 c2 c3 c4 c5 c6 c7 c8 f9 a k=Option.bind (ZZv c1 c2 c3 c4 c5 c6 c7 c8 f9 a fun a0 a1 a2 a3 a4 a5 a6 a7=>some (a0,a1,a2,a3,a4,a5,a6,a7)) fun y=>k y.1 y.2.1 y.2.2.1 y.2.2.2.1 y.2.2.2.2.1 y.2.2.2.2.2.1 y.2.2.2.2.2.2.1 y.2.2.2.2.2.2.2:=by
 unfold ZZv
 first | rfl | simp only [Option.bind_assoc,Zya,Zxa,Option.bind_some,Option.bind_none]
theorem ZyK (hΓ:Zga Tryz.prog G0 ZJK):Zka Tryz.prog G0 37 ZqG:=by
 refine ZIa mixed tOk (Zna hΓ) Tryz.func37 rfl rfl rfl rfl (F:=Zfa Tryz.f37) (fun ps x h=>?_)
 obtain ⟨y,hy,hx⟩:=Zba h
 cases hx
 obtain ⟨c1,c2,c3,c4,c5,c6,c7,c8,f9,a,rfl⟩:=ZxL hy
 have hy':ZKj c1 c2 c3 c4 c5 c6 c7 c8 f9 a=some y:=hy
 refine ⟨noL,ZKa _,(ZDL c1 c2 c3 c4 c5 c6 c7 c8 f9 a).trans ?_⟩
 unfold ZKj at hy'
 rw [ZtL,hy']
 rfl
def ZFe {R:Type} (n:Nat)(a:Int)(b:ByteArray)(d e:Int)(f:Rs)(g i:Int)(j:Bool)(l o q t u v z A B C D E F G H I:Int)(k0:Bool→Int→Int→Int→Int→Int→Int→Int→Int→Option R)(k1:Int→ByteArray→Int→Int→Rs→Int→Int→Int→Int→Int→Int→Int→Int→Int→Int→Int→Int→Int→Int→Int→Int→Int→Int→Option R):Option R :=
 cond j (
  k0 false 0 0 0 0 0 0 0 0) (
  k1 a b d e f g i l o q t u v z A B C D E F G H I)
def Zae {R:Type}:Nat→Int→ByteArray→Rs→Int→Int→Int→Int→Int→Int→Int→Int→Int→Int→Int→Int→Int→Int→Int→Int→Int→Int→(Int→Int→Int→Int→Int→Int→Int→Int→Int→Int→Int→Int→Int→Int→Int→Int→Int→Option R)→(Bool→Int→Int→Int→Int→Int→Int→Int→Int→Option R)→Option R
 | 0,_,_,_,_,_,_,_,_,_,_,_,_,_,_,_,_,_,_,_,_,_,_,_=>none
 | n + 1,a,b,d,e,f,g,i,j,l,o,q,t,u,v,z,A,B,C,D,E,F,k0,k1 =>
  cond (decide (f < e)) (
   Option.bind (idx d f) fun G =>
   if G.length=1 then
    Option.bind (G[0]?) fun H =>
    Option.bind (PV.asS H) fun I =>
    Option.bind (Zso I) fun J =>
    cond (!J.2) (
     ZFe n a b f J.1 d e f true g i j l o q t u v z A B C D E F k1
      (fun (K:Int)(L:ByteArray)(M N:Int)(O:Rs)(Q U V W X Y Z a1 b1 c1 d1 e1 f1 g1 h1 i1 j1 l1:Int) =>
       (fun (z1:Option R) =>
        meet (
         z1) (
         z1)) (
        Option.bind (idx (L).data.toList M) fun m1 =>
        Option.bind (ZKj d1 e1 f1 g1 h1 i1 j1 l1 (m1.toNat:Int) N) fun n1 =>
        Zae n K L O Q (IntKind.i64.wrap (U + (1:Int))) V W X Y Z a1 b1 c1 n1.1 n1.2.1 n1.2.2.1 n1.2.2.2.1 n1.2.2.2.2.1 n1.2.2.2.2.2.1 n1.2.2.2.2.2.2.1 n1.2.2.2.2.2.2.2 k0 k1))) (
     cond (decide (J.1 < (0:Int))) (
      ZFe n a b f J.1 d e f true g i j l o q t u v z A B C D E F k1
       (fun (o1:Int)(p1:ByteArray)(q1 r1:Int)(s1:Rs)(t1 u1 v1 w1 x1 y1 A1 B1 C1 D1 E1 F1 G1 H1 I1 J1 K1 L1:Int) =>
        (fun (z2:Option R) =>
         meet (
          z2) (
          z2)) (
         Option.bind (idx (p1).data.toList q1) fun M1 =>
         Option.bind (ZKj E1 F1 G1 H1 I1 J1 K1 L1 (M1.toNat:Int) r1) fun N1 =>
         Zae n o1 p1 s1 t1 (IntKind.i64.wrap (u1 + (1:Int))) v1 w1 x1 y1 A1 B1 C1 D1 N1.1 N1.2.1 N1.2.2.1 N1.2.2.2.1 N1.2.2.2.2.1 N1.2.2.2.2.2.1 N1.2.2.2.2.2.2.1 N1.2.2.2.2.2.2.2 k0 k1))) (
      ZFe n a b f J.1 d e f (decide (J.1 > (999:Int))) g i j l o q t u v z A B C D E F k1
       (fun (O1:Int)(P1:ByteArray)(Q1 R1:Int)(S1:Rs)(T1 U1 V1 W1 X1 Y1 Z1 a2 b2 c2 d2 e2 f2 g2 h2 i2 j2 k2:Int) =>
        (fun (z3:Option R) =>
         meet (
          z3) (
          z3)) (
         Option.bind (idx (P1).data.toList Q1) fun l2 =>
         Option.bind (ZKj d2 e2 f2 g2 h2 i2 j2 k2 (l2.toNat:Int) R1) fun m2 =>
         Zae n O1 P1 S1 T1 (IntKind.i64.wrap (U1 + (1:Int))) V1 W1 X1 Y1 Z1 a2 b2 c2 m2.1 m2.2.1 m2.2.2.1 m2.2.2.2.1 m2.2.2.2.2.1 m2.2.2.2.2.2.1 m2.2.2.2.2.2.2.1 m2.2.2.2.2.2.2.2 k0 k1))))
   else none) (
   k0 a g i j l o q t u v z A B C D E F)
def ZGe {R:Type} (n:Nat)(a:Bool)(b d e f g i j l o q t u v z A B:Int)(k0:Bool→Int→Int→Int→Int→Int→Int→Int→Int→Option R)(k1:Int→Int→Int→Int→Int→Int→Int→Int→Int→Int→Int→Int→Int→Int→Int→Int→Option R):Option R :=
 cond a (
  k0 false 0 0 0 0 0 0 0 0) (
  k1 b d e f g i j l o q t u v z A B)
def Z9d {R:Type}:Nat→Rs→Int→Int→Int→Int→Int→Int→Int→Int→Int→(Int→Int→Int→Int→Int→Int→Int→Int→Option R)→(Bool→Int→Int→Int→Int→Int→Int→Int→Int→Option R)→Option R
 | 0,_,_,_,_,_,_,_,_,_,_,_,_=>none
 | n + 1,a,b,d,e,f,g,i,j,l,o,k0,k1 =>
  cond (decide (b≤(13:Int))) (
   cond (decide ((a.length:Int) > (0:Int))) (
    Option.bind (ZQl b) fun q =>
    Option.bind (idx a (0:Int)) fun t =>
    if t.length=1 then
     Option.bind (t[0]?) fun u =>
     Option.bind (PV.asS u) fun v =>
     cond (!(ByteArray.toList v == ByteArray.toList q.1)) (
      Z9d n a (IntKind.i64.wrap (b + (1:Int))) d e f g i j l o k0 k1) (
      cond (decide ((IntKind.i64.wrap ((a.length:Int) - (1:Int))) > ((q.2.1).size:Int))) (
       Z9d n a (IntKind.i64.wrap (b + (1:Int))) d e f g i j l o k0 k1) (
       cond (decide ((IntKind.i64.wrap ((a.length:Int) - (1:Int))) < (IntKind.i64.wrap (((q.2.1).size:Int) - q.2.2)))) (
        Z9d n a (IntKind.i64.wrap (b + (1:Int))) d e f g i j l o k0 k1) (
        Option.bind (Zts b) fun z =>
        if (0:Int)≤(1:Int)∧(1:Int)≤(a.length:Int)∧(a.length:Int)=(a.length:Int)∧(a.length:Int)≤(a.length:Int)∧ZJa 1 a=true then
         Zae n b q.2.1 ((a.take (Int.toNat (a.length:Int))).drop 1) (((a.take (Int.toNat (a.length:Int))).drop 1).length:Int) 0 d e f g i j l o z.1 z.2.1 z.2.2.1 z.2.2.2.1 z.2.2.2.2.1 z.2.2.2.2.2.1 z.2.2.2.2.2.2.1 z.2.2.2.2.2.2.2
          (fun (A B C D E F G H I J K L M N O Q U:Int) =>
           cond (A ==(8:Int)) (
            cond (decide (O < (1:Int))) (
             ZGe n true B C D E F G H I J K L M N O Q U k1
              (fun (V W X i64 Y Z a1 b1 c1 d1 e1 f1 g1 h1 i1 j1:Int) =>
               k1 true c1 d1 e1 f1 g1 h1 i1 j1)) (
             ZGe n (decide (O > (20:Int))) B C D E F G H I J K L M N O Q U k1
              (fun (l1 m1 n1 o1 p1 q1 r1 s1 t1 u1 v1 w1 x1 y1 z1 A1:Int) =>
               k1 true t1 u1 v1 w1 x1 y1 z1 A1))) (
            ZGe n false B C D E F G H I J K L M N O Q U k1
             (fun (B1 C1 D1 E1 F1 G1 H1 I1 J1 K1 L1 M1 N1 O1 P1 Q1:Int) =>
              k1 true J1 K1 L1 M1 N1 O1 P1 Q1))) k1
        else none)))
    else none) (
    k0 d e f g i j l o)) (
   k0 d e f g i j l o)
def ZIi {R:Type} (n:Nat)(a:ByteArray)(k:Int→Int→Int→Int→Int→Int→Int→Int→Bool→Option R):Option R :=
 Option.bind (ZPi a) fun y2 =>
 Z9d n y2 1 0 0 0 0 0 0 0 0
  (fun (i3 i4 i5 i6 i7 i8 i9 b:Int) =>
   k 0 0 0 0 0 0 0 0 false)
  (fun (d:Bool)(e f g i i16 j l o:Int) =>
   k e f g i i16 j l o d)
def ZRy (y:Int × Int × Int × Int × Int × Int × Int × Int × Bool):PV × Cs:=((PV.tuple [.agg [.int .i64 y.1,.int .i64 y.2.1,.int .i64 y.2.2.1,.int .i64 y.2.2.2.1,.int .i64 y.2.2.2.2.1,.int .i64 y.2.2.2.2.2.1,.int .i64 y.2.2.2.2.2.2.1,.int .i64 y.2.2.2.2.2.2.2.1],.bool y.2.2.2.2.2.2.2.2]),[])
def ZMf (n:Nat)(a:Int)(b:ByteArray)(d e:Int)(f:Rs)(g i:Int)(j:Bool)(l o q t u v z A B C D E F G H I:Int):Option ((Bool × Int × Int × Int × Int × Int × Int × Int × Int) ⊕ (Int × ByteArray × Int × Int × Rs × Int × Int × Int × Int × Int × Int × Int × Int × Int × Int × Int × Int × Int × Int × Int × Int × Int × Int)) :=
 cond j (
  some (Sum.inl (false,0,0,0,0,0,0,0,0))) (
  some (Sum.inr (a,b,d,e,f,g,i,l,o,q,t,u,v,z,A,B,C,D,E,F,G,H,I)))
theorem ZPl {R:Type} (n:Nat)(a:Int)(b:ByteArray)(d e:Int)(f:Rs)(g i:Int)(j:Bool)(l o q t u v z A B C D E F G H I:Int)(k0:Bool→Int→Int→Int→Int→Int→Int→Int→Int→Option R)(k1:Int→ByteArray→Int→Int→Rs→Int→Int→Int→Int→Int→Int→Int→Int→Int→Int→Int→Int→Int→Int→Int→Int→Int→Int→Option R):Tw (ZMf n a b d e f g i j l o q t u v z A B C D E F G H I) (ZFe n a b d e f g i j l o q t u v z A B C D E F G H I k0 k1) (fun s=>match s with | (Sum.inl (a0,a1,a2,a3,a4,a5,a6,a7,a8))=>k0 a0 a1 a2 a3 a4 a5 a6 a7 a8 | (Sum.inr (a0,a1,a2,a3,a4,a5,a6,a7,a8,a9,J,K,L,M,N,O,Q,U,V,W,X,Y,Z))=>k1 a0 a1 a2 a3 a4 a5 a6 a7 a8 a9 J K L M N O Q U V W X Y Z):=by
 unfold ZMf ZFe
 refine Zha (fun _=>?_) (fun _=>?_)
 ·exact Zda rfl
 ·exact Zda rfl
def Zye:Nat→Int→ByteArray→Rs→Int→Int→Int→Int→Int→Int→Int→Int→Int→Int→Int→Int→Int→Int→Int→Int→Int→Int→Option ((Int × Int × Int × Int × Int × Int × Int × Int × Int × Int × Int × Int × Int × Int × Int × Int × Int) ⊕ (Bool × Int × Int × Int × Int × Int × Int × Int × Int))
 | 0,_,_,_,_,_,_,_,_,_,_,_,_,_,_,_,_,_,_,_,_,_=>none
 | n + 1,a,b,d,e,f,g,i,j,l,o,q,t,u,v,z,A,B,C,D,E,F =>
  cond (decide (f < e)) (
   Option.bind (idx d f) fun G =>
   if G.length=1 then
    Option.bind (G[0]?) fun H =>
    Option.bind (PV.asS H) fun I =>
    Option.bind (Zso I) fun J =>
    cond (!J.2) (
     Option.bind (ZMf n a b f J.1 d e f true g i j l o q t u v z A B C D E F) fun s=>match s with
      | (Sum.inl (K,L,M,N,O,Q,U,V,W)) =>
       some (Sum.inr (K,L,M,N,O,Q,U,V,W))
      | (Sum.inr (X,Y,Z,a1,b1,c1,d1,e1,f1,g1,h1,i1,j1,k1,l1,m1,n1,o1,p1,q1,r1,s1,t1)) =>
       Option.bind (idx (Y).data.toList Z) fun u1 =>
       Option.bind (ZKj m1 n1 o1 p1 q1 r1 s1 t1 (u1.toNat:Int) a1) fun v1 =>
       Zye n X Y b1 c1 (IntKind.i64.wrap (d1 + (1:Int))) e1 f1 g1 h1 i1 j1 k1 l1 v1.1 v1.2.1 v1.2.2.1 v1.2.2.2.1 v1.2.2.2.2.1 v1.2.2.2.2.2.1 v1.2.2.2.2.2.2.1 v1.2.2.2.2.2.2.2) (
     cond (decide (J.1 < (0:Int))) (
      Option.bind (ZMf n a b f J.1 d e f true g i j l o q t u v z A B C D E F) fun s=>match s with
       | (Sum.inl (w1,x1,y1,z1,A1,B1,C1,D1,E1)) =>
        some (Sum.inr (w1,x1,y1,z1,A1,B1,C1,D1,E1))
       | (Sum.inr (F1,G1,H1,I1,J1,K1,L1,M1,N1,O1,P1,Q1,R1,S1,T1,U1,V1,W1,X1,Y1,Z1,a2,b2)) =>
        Option.bind (idx (G1).data.toList H1) fun c2 =>
        Option.bind (ZKj U1 V1 W1 X1 Y1 Z1 a2 b2 (c2.toNat:Int) I1) fun d2 =>
        Zye n F1 G1 J1 K1 (IntKind.i64.wrap (L1 + (1:Int))) M1 N1 O1 P1 Q1 R1 S1 T1 d2.1 d2.2.1 d2.2.2.1 d2.2.2.2.1 d2.2.2.2.2.1 d2.2.2.2.2.2.1 d2.2.2.2.2.2.2.1 d2.2.2.2.2.2.2.2) (
      Option.bind (ZMf n a b f J.1 d e f (decide (J.1 > (999:Int))) g i j l o q t u v z A B C D E F) fun s=>match s with
       | (Sum.inl (e2,f2,g2,h2,i2,j2,k2,l2,m2)) =>
        some (Sum.inr (e2,f2,g2,h2,i2,j2,k2,l2,m2))
       | (Sum.inr (n2,o2,p2,q2,r2,s2,t2,u2,v2,w2,x2,y2,z2,A2,B2,C2,D2,E2,F2,G2,H2,I2,J2)) =>
        Option.bind (idx (o2).data.toList p2) fun K2 =>
        Option.bind (ZKj C2 D2 E2 F2 G2 H2 I2 J2 (K2.toNat:Int) q2) fun L2 =>
        Zye n n2 o2 r2 s2 (IntKind.i64.wrap (t2 + (1:Int))) u2 v2 w2 x2 y2 z2 A2 B2 L2.1 L2.2.1 L2.2.2.1 L2.2.2.2.1 L2.2.2.2.2.1 L2.2.2.2.2.2.1 L2.2.2.2.2.2.2.1 L2.2.2.2.2.2.2.2))
   else none) (
   some (Sum.inl (a,g,i,j,l,o,q,t,u,v,z,A,B,C,D,E,F)))
theorem ZkD {R:Type} (n:Nat)(a:Int)(b:ByteArray)(d:Rs)(e f g i j l o q t u v z A B C D E F:Int)(k0:Int→Int→Int→Int→Int→Int→Int→Int→Int→Int→Int→Int→Int→Int→Int→Int→Int→Option R)(k1:Bool→Int→Int→Int→Int→Int→Int→Int→Int→Option R):Tw (Zye n a b d e f g i j l o q t u v z A B C D E F) (Zae n a b d e f g i j l o q t u v z A B C D E F k0 k1) (fun s=>match s with | (Sum.inl (a0,a1,a2,a3,a4,a5,a6,a7,a8,a9,G,H,I,J,K,L,M))=>k0 a0 a1 a2 a3 a4 a5 a6 a7 a8 a9 G H I J K L M | (Sum.inr (a0,a1,a2,a3,a4,a5,a6,a7,a8))=>k1 a0 a1 a2 a3 a4 a5 a6 a7 a8):=by
 induction n generalizing a b d e f g i j l o q t u v z A B C D E F with
 | zero=>exact Zwa
 | succ n ih =>
  unfold Zye Zae
  refine Zha (fun _=>?_) (fun _=>?_)
  ·refine Zaa fun N _=>?_
   refine Zqa fun _=>?_
   refine Zaa fun O _=>?_
   refine Zaa fun Q _=>?_
   refine Zaa fun U _=>?_
   refine Zha (fun _=>?_) (fun _=>?_)
   ·refine Zma (ZPl _ _ _ _ _ _ _ _ _ _ _ _ _ _ _ _ _ _ _ _ _ _ _ _ _ _ _) (fun s=>?_)
    rcases s with ⟨V,W,X,Y,Z,b1,c1,d1,e1⟩ | ⟨f1,g1,h1,i1,j1,l1,m1,n1,o1,p1,q1,r1,s1,t1,u1,v1,w1,x1,y1,z1,A1,B1,C1⟩
    ·exact Zda rfl
    ·intro s hs
     obtain ⟨D1,E1,hs⟩:=Zba hs
     obtain ⟨F1,G1,hs⟩:=Zba hs
     have H1:=ih _ _ _ _ _ _ _ _ _ _ _ _ _ _ _ _ _ _ _ _ _ s hs
     simp only [E1,G1,H1,Option.bind_some,cond_true,cond_false,if_true,if_false,ite_true,ite_false,ZGa,and_self,true_and,and_true,eq_self,not_true_eq_false,not_false_eq_true,Bool.false_eq_true,reduceCtorEq]
   ·refine Zha (fun _=>?_) (fun _=>?_)
    ·refine Zma (ZPl _ _ _ _ _ _ _ _ _ _ _ _ _ _ _ _ _ _ _ _ _ _ _ _ _ _ _) (fun s=>?_)
     rcases s with ⟨I1,J1,K1,L1,M1,N1,O1,P1,Q1⟩ | ⟨R1,S1,T1,U1,V1,W1,X1,Y1,Z1,b2,c2,d2,e2,f2,g2,h2,i2,j2,k2,l2,m2,n2,o2⟩
     ·exact Zda rfl
     ·intro s hs
      obtain ⟨p2,q2,hs⟩:=Zba hs
      obtain ⟨r2,s2,hs⟩:=Zba hs
      have t2:=ih _ _ _ _ _ _ _ _ _ _ _ _ _ _ _ _ _ _ _ _ _ s hs
      simp only [q2,s2,t2,Option.bind_some,cond_true,cond_false,if_true,if_false,ite_true,ite_false,ZGa,and_self,true_and,and_true,eq_self,not_true_eq_false,not_false_eq_true,Bool.false_eq_true,reduceCtorEq]
    ·refine Zma (ZPl _ _ _ _ _ _ _ _ _ _ _ _ _ _ _ _ _ _ _ _ _ _ _ _ _ _ _) (fun s=>?_)
     rcases s with ⟨u2,v2,w2,x2,y2,z2,A2,B2,C2⟩ | ⟨D2,E2,F2,G2,H2,I2,J2,K2,L2,M2,N2,O2,P2,Q2,R2,S2,T2,U2,V2,W2,X2,Y2,Z2⟩
     ·exact Zda rfl
     ·intro s hs
      obtain ⟨b3,c3,hs⟩:=Zba hs
      obtain ⟨d3,e3,hs⟩:=Zba hs
      have f3:=ih _ _ _ _ _ _ _ _ _ _ _ _ _ _ _ _ _ _ _ _ _ s hs
      simp only [c3,e3,f3,Option.bind_some,cond_true,cond_false,if_true,if_false,ite_true,ite_false,ZGa,and_self,true_and,and_true,eq_self,not_true_eq_false,not_false_eq_true,Bool.false_eq_true,reduceCtorEq]
  ·exact Zda rfl
def ZRf (n:Nat)(a:Bool)(b d e f g i j l o q t u v z A B:Int):Option ((Bool × Int × Int × Int × Int × Int × Int × Int × Int) ⊕ (Int × Int × Int × Int × Int × Int × Int × Int × Int × Int × Int × Int × Int × Int × Int × Int)) :=
 cond a (
  some (Sum.inl (false,0,0,0,0,0,0,0,0))) (
  some (Sum.inr (b,d,e,f,g,i,j,l,o,q,t,u,v,z,A,B)))
theorem ZBl {R:Type} (n:Nat)(a:Bool)(b d e f g i j l o q t u v z A B:Int)(k0:Bool→Int→Int→Int→Int→Int→Int→Int→Int→Option R)(k1:Int→Int→Int→Int→Int→Int→Int→Int→Int→Int→Int→Int→Int→Int→Int→Int→Option R):Tw (ZRf n a b d e f g i j l o q t u v z A B) (ZGe n a b d e f g i j l o q t u v z A B k0 k1) (fun s=>match s with | (Sum.inl (a0,a1,a2,a3,a4,a5,a6,a7,a8))=>k0 a0 a1 a2 a3 a4 a5 a6 a7 a8 | (Sum.inr (a0,a1,a2,a3,a4,a5,a6,a7,a8,a9,C,D,E,F,G,H))=>k1 a0 a1 a2 a3 a4 a5 a6 a7 a8 a9 C D E F G H):=by
 unfold ZRf ZGe
 refine Zha (fun _=>?_) (fun _=>?_)
 ·exact Zda rfl
 ·exact Zda rfl
def Zxe:Nat→Rs→Int→Int→Int→Int→Int→Int→Int→Int→Int→Option ((Int × Int × Int × Int × Int × Int × Int × Int) ⊕ (Bool × Int × Int × Int × Int × Int × Int × Int × Int))
 | 0,_,_,_,_,_,_,_,_,_,_=>none
 | n + 1,a,b,d,e,f,g,i,j,l,o =>
  cond (decide (b≤(13:Int))) (
   cond (decide ((a.length:Int) > (0:Int))) (
    Option.bind (ZQl b) fun q =>
    Option.bind (idx a (0:Int)) fun t =>
    if t.length=1 then
     Option.bind (t[0]?) fun u =>
     Option.bind (PV.asS u) fun v =>
     cond (!(ByteArray.toList v == ByteArray.toList q.1)) (
      Zxe n a (IntKind.i64.wrap (b + (1:Int))) d e f g i j l o) (
      cond (decide ((IntKind.i64.wrap ((a.length:Int) - (1:Int))) > ((q.2.1).size:Int))) (
       Zxe n a (IntKind.i64.wrap (b + (1:Int))) d e f g i j l o) (
       cond (decide ((IntKind.i64.wrap ((a.length:Int) - (1:Int))) < (IntKind.i64.wrap (((q.2.1).size:Int) - q.2.2)))) (
        Zxe n a (IntKind.i64.wrap (b + (1:Int))) d e f g i j l o) (
        Option.bind (Zts b) fun z =>
        if (0:Int)≤(1:Int)∧(1:Int)≤(a.length:Int)∧(a.length:Int)=(a.length:Int)∧(a.length:Int)≤(a.length:Int)∧ZJa 1 a=true then
         Option.bind (Zye n b q.2.1 ((a.take (Int.toNat (a.length:Int))).drop 1) (((a.take (Int.toNat (a.length:Int))).drop 1).length:Int) 0 d e f g i j l o z.1 z.2.1 z.2.2.1 z.2.2.2.1 z.2.2.2.2.1 z.2.2.2.2.2.1 z.2.2.2.2.2.2.1 z.2.2.2.2.2.2.2) fun s=>match s with
          | (Sum.inl (A,B,C,D,E,F,G,H,I,J,K,L,M,N,O,Q,U)) =>
           cond (A ==(8:Int)) (
            cond (decide (O < (1:Int))) (
             Option.bind (ZRf n true B C D E F G H I J K L M N O Q U) fun s=>match s with
              | (Sum.inl (V,W,X,Y,Z,a1,b1,c1,d1)) =>
               some (Sum.inr (V,W,X,Y,Z,a1,b1,c1,d1))
              | (Sum.inr (e1,f1,g1,i64,h1,i1,j1,k1,l1,m1,n1,o1,p1,q1,r1,s1)) =>
               some (Sum.inr (true,l1,m1,n1,o1,p1,q1,r1,s1))) (
             Option.bind (ZRf n (decide (O > (20:Int))) B C D E F G H I J K L M N O Q U) fun s=>match s with
              | (Sum.inl (t1,u1,v1,w1,x1,y1,z1,A1,B1)) =>
               some (Sum.inr (t1,u1,v1,w1,x1,y1,z1,A1,B1))
              | (Sum.inr (C1,D1,E1,F1,G1,H1,I1,J1,K1,L1,M1,N1,O1,P1,Q1,R1)) =>
               some (Sum.inr (true,K1,L1,M1,N1,O1,P1,Q1,R1)))) (
            Option.bind (ZRf n false B C D E F G H I J K L M N O Q U) fun s=>match s with
             | (Sum.inl (S1,T1,U1,V1,W1,X1,Y1,Z1,a2)) =>
              some (Sum.inr (S1,T1,U1,V1,W1,X1,Y1,Z1,a2))
             | (Sum.inr (b2,c2,d2,e2,f2,g2,h2,i2,j2,k2,l2,m2,n2,o2,p2,q2)) =>
              some (Sum.inr (true,j2,k2,l2,m2,n2,o2,p2,q2)))
          | (Sum.inr (r2,s2,t2,u2,v2,w2,x2,y2,z2)) =>
           some (Sum.inr (r2,s2,t2,u2,v2,w2,x2,y2,z2))
        else none)))
    else none) (
    some (Sum.inl (d,e,f,g,i,j,l,o)))) (
   some (Sum.inl (d,e,f,g,i,j,l,o)))
theorem ZYD {R:Type} (n:Nat)(a:Rs)(b d e f g i j l o:Int)(k0:Int→Int→Int→Int→Int→Int→Int→Int→Option R)(k1:Bool→Int→Int→Int→Int→Int→Int→Int→Int→Option R):Tw (Zxe n a b d e f g i j l o) (Z9d n a b d e f g i j l o k0 k1) (fun s=>match s with | (Sum.inl (a0,a1,a2,a3,a4,a5,a6,a7))=>k0 a0 a1 a2 a3 a4 a5 a6 a7 | (Sum.inr (a0,a1,a2,a3,a4,a5,a6,a7,a8))=>k1 a0 a1 a2 a3 a4 a5 a6 a7 a8):=by
 induction n generalizing a b d e f g i j l o with
 | zero=>exact Zwa
 | succ n ih =>
  unfold Zxe Z9d
  refine Zha (fun _=>?_) (fun _=>?_)
  ·refine Zha (fun _=>?_) (fun _=>?_)
   ·refine Zaa fun q _=>?_
    refine Zaa fun t _=>?_
    refine Zqa fun _=>?_
    refine Zaa fun u _=>?_
    refine Zaa fun v _=>?_
    refine Zha (fun _=>?_) (fun _=>?_)
    ·exact ih _ _ _ _ _ _ _ _ _ _
    ·refine Zha (fun _=>?_) (fun _=>?_)
     ·exact ih _ _ _ _ _ _ _ _ _ _
     ·refine Zha (fun _=>?_) (fun _=>?_)
      ·exact ih _ _ _ _ _ _ _ _ _ _
      ·refine Zaa fun z _=>?_
       refine Zqa fun _=>?_
       refine Zma (ZkD _ _ _ _ _ _ _ _ _ _ _ _ _ _ _ _ _ _ _ _ _ _ _ _) (fun s=>?_)
       rcases s with ⟨A,B,C,D,E,F,G,H,I,J,K,L,M,N,O,Q,U⟩ | ⟨V,W,X,Y,Z,b1,c1,d1,e1⟩
       ·refine Zha (fun _=>?_) (fun _=>?_)
        ·refine Zha (fun _=>?_) (fun _=>?_)
         ·refine Zma (ZBl _ _ _ _ _ _ _ _ _ _ _ _ _ _ _ _ _ _ _ _) (fun s=>?_)
          rcases s with ⟨f1,g1,h1,i1,j1,l1,m1,n1,o1⟩ | ⟨p1,q1,r1,i64,s1,t1,u1,v1,w1,x1,y1,z1,A1,B1,C1,D1⟩
          ·exact Zda rfl
          ·exact Zda rfl
         ·refine Zma (ZBl _ _ _ _ _ _ _ _ _ _ _ _ _ _ _ _ _ _ _ _) (fun s=>?_)
          rcases s with ⟨E1,F1,G1,H1,I1,J1,K1,L1,M1⟩ | ⟨N1,O1,P1,Q1,R1,S1,T1,U1,V1,W1,X1,Y1,Z1,b2,c2,d2⟩
          ·exact Zda rfl
          ·exact Zda rfl
        ·refine Zma (ZBl _ _ _ _ _ _ _ _ _ _ _ _ _ _ _ _ _ _ _ _) (fun s=>?_)
         rcases s with ⟨e2,f2,g2,h2,i2,j2,k2,l2,m2⟩ | ⟨n2,o2,p2,q2,r2,s2,t2,u2,v2,w2,x2,y2,z2,A2,B2,C2⟩
         ·exact Zda rfl
         ·exact Zda rfl
       ·exact Zda rfl
   ·exact Zda rfl
  ·exact Zda rfl
def ZJe (a:ByteArray):Option (Int × Int × Int × Int × Int × Int × Int × Int × Bool) :=
 Option.bind (ZPi a) fun y2 =>
 Option.bind (Zxe 9223372036854775808 y2 1 0 0 0 0 0 0 0 0) fun s=>match s with
  | (Sum.inl (i3,i4,i5,i6,i7,i8,i9,b)) =>
   some (0,0,0,0,0,0,0,0,false)
  | (Sum.inr (d,e,f,g,i,i16,j,l,o)) =>
   some (e,f,g,i,i16,j,l,o,d)
theorem ZFH {R:Type} (a:ByteArray)(k:Int→Int→Int→Int→Int→Int→Int→Int→Bool→Option R):Tw (ZJe a) (ZIi 9223372036854775808 a k) (fun s=>match s with | (a0,a1,a2,a3,a4,a5,a6,a7,a8)=>k a0 a1 a2 a3 a4 a5 a6 a7 a8):=by
 unfold ZJe ZIi
 refine Zaa fun y2 _=>?_
 refine Zma (ZYD _ _ _ _ _ _ _ _ _ _ _ _ _) (fun s=>?_)
 rcases s with ⟨i3,i4,i5,i6,i7,i8,i9,b⟩ | ⟨d,e,f,g,i,i16,j,l,o⟩
 ·exact Zda rfl
 ·exact Zda rfl
theorem ZZH:∀ (a:ByteArray)(y:Int × Int × Int × Int × Int × Int × Int × Int × Bool),ZJe a=some y→∃ n,∀ (R:Type)(k:Int→Int→Int→Int→Int→Int→Int→Int→Bool→Option R),ZIi n a k=k y.1 y.2.1 y.2.2.1 y.2.2.2.1 y.2.2.2.2.1 y.2.2.2.2.2.1 y.2.2.2.2.2.2.1 y.2.2.2.2.2.2.2.1 y.2.2.2.2.2.2.2.2:=fun a y h=>⟨9223372036854775808,fun R k=>ZFH a k y h⟩
def Zss:Cs→Option (Int × Int × Int × Int × Int × Int × Int × Int × Bool)
 | [.str a]=>ZJe a
 | _=>none
def ZKe:List (Nat × Cal):=[(33,.ctr Zuz),(34,.ctr ZhC),(35,.ctr ZyC),(36,.ctr ZbF),(37,.ctr ZqG)]
def ZSs:Ctr:=⟨[none],Int × Int × Int × Int × Int × Int × Int × Int × Bool,Zss,ZRy,true,.d⟩
def ZMc:List (Nat × LC):=[(3,⟨[2,4,5],[],[],[],[]⟩),
 (9,⟨[2,5,7,9,57,58,59],[],[],[],[]⟩),
 (1003000,⟨[2],[],[],[],[]⟩),
 (2000009,⟨[2,3],[],[],[],[]⟩),
 (4000014,⟨[2,5,7,9,10,12,57,58,59,78],[],[],[],[]⟩),
 (1009002,⟨[2,5,9],[],[],[],[]⟩),
 (6000014,⟨[2,3],[],[],[],[]⟩),
 (5000014,⟨[2,5,7,9,10,12,57,58,59],[],[],[],[]⟩),
 (2000003,⟨[2,3],[],[],[],[]⟩),
 (4000018,⟨[2,9,98],[],[],[],[]⟩),
 (6000018,⟨[2,3],[],[],[],[]⟩),
 (5000018,⟨[2,9],[],[],[],[]⟩)]
def Ztm:SP:=⟨Zea .undef [(2,(.ref 0 0)),(5,(.val (.int .i64))),(7,(.val .str)),(9,(.ref 1 0)),(10,(.val (.int .i64))),(12,(.val (.int .i64))),(57,(.val .fs)),(58,(.val (.int .i64))),(59,(.val (.int .i64))),(78,(.val .bool))] 0 102,[(.box [(.val (.int .i64)),(.val (.int .i64)),(.val (.int .i64)),(.val (.int .i64)),(.val (.int .i64)),(.val (.int .i64)),(.val (.int .i64)),(.val (.int .i64))]),(.pbox (.agg [(.int .i64),(.int .i64),(.int .i64),(.int .i64),(.int .i64),(.int .i64),(.int .i64),(.int .i64)]) 8)],[]⟩
def Zeq:SP:=⟨Zea .undef [(2,(.ref 0 0)),(5,(.val (.int .i64))),(7,(.val .str)),(9,(.ref 1 0)),(57,(.val .fs)),(58,(.val (.int .i64))),(59,(.val (.int .i64)))] 0 102,[(.box [(.val (.int .i64)),(.val (.int .i64)),(.val (.int .i64)),(.val (.int .i64)),(.val (.int .i64)),(.val (.int .i64)),(.val (.int .i64)),(.val (.int .i64))]),(.pbox (.agg [(.int .i64),(.int .i64),(.int .i64),(.int .i64),(.int .i64),(.int .i64),(.int .i64),(.int .i64)]) 8)],[]⟩
def ZTn:SP:=⟨Zea .undef [(2,(.ref 0 0)),(9,(.ref 1 0)),(98,(.val .bool))] 0 102,[(.box [(.val (.int .i64)),(.val (.int .i64)),(.val (.int .i64)),(.val (.int .i64)),(.val (.int .i64)),(.val (.int .i64)),(.val (.int .i64)),(.val (.int .i64))]),(.pbox (.agg [(.int .i64),(.int .i64),(.int .i64),(.int .i64),(.int .i64),(.int .i64),(.int .i64),(.int .i64)]) 8)],[]⟩
def ZMp:SP:=⟨Zea .undef [(2,(.ref 0 0)),(4,(.val .fs)),(5,(.val (.int .i64)))] 0 102,[(.box [(.val (.int .i64)),(.val (.int .i64)),(.val (.int .i64)),(.val (.int .i64)),(.val (.int .i64)),(.val (.int .i64)),(.val (.int .i64)),(.val (.int .i64))])],[]⟩
def Zuv:Nat→Option SP
 | 9=>some Zeq
 | 3=>some ZMp
 | _=>none
def ZHt:Nat→Option SP
 | 14=>some Ztm
 | 18=>some ZTn
 | _=>none
def Zyj (n:Nat)(ls:List Leaf)(R:Type)(k:Ex→St→Option R):Option R :=
 match ls with
 | [.int a,.str b,.int d,.int e,.rows f,.int g,.int i,.bool j,.int l,.int o,.int q,.int t,.int u,.int v,.int z,.int A,.int B,.int C,.int D,.int E,.int F,.int G,.int H,.int I]=>ZFe n a b d e f g i j l o q t u v z A B C D E F G H I (fun J K L M N O Q U V=>k .ret ⟨Zea .undef [(2,(TV.ref 0 0)),(3,(TV.val (PV.bool J)))] 0 102,[(Ob.pbox (PV.agg [.int .i64 K,.int .i64 L,.int .i64 M,.int .i64 N,.int .i64 O,.int .i64 Q,.int .i64 U,.int .i64 V]) 8)],[]⟩)
   (fun W X Y Z a1 b1 c1 d1 e1 f1 g1 h1 i1 j1 k1 l1 m1 n1 o1 p1 q1 r1 s1=>k .normal ⟨Zea .undef [(2,(TV.ref 0 0)),(5,(TV.val (PV.int .i64 W))),(7,(TV.val (PV.str X))),(9,(TV.ref 1 0)),(10,(TV.val (PV.int .i64 Y))),(12,(TV.val (PV.int .i64 Z))),(57,(TV.val (PV.fs a1))),(58,(TV.val (PV.int .i64 b1))),(59,(TV.val (PV.int .i64 c1)))] 0 102,[(Ob.box [(TV.val (PV.int .i64 d1)),(TV.val (PV.int .i64 e1)),(TV.val (PV.int .i64 f1)),(TV.val (PV.int .i64 g1)),(TV.val (PV.int .i64 h1)),(TV.val (PV.int .i64 i1)),(TV.val (PV.int .i64 j1)),(TV.val (PV.int .i64 k1))]),(Ob.pbox (PV.agg [.int .i64 l1,.int .i64 m1,.int .i64 n1,.int .i64 o1,.int .i64 p1,.int .i64 q1,.int .i64 r1,.int .i64 s1]) 8)],[]⟩)
 | _=>none
def Zrf (n:Nat)(ls:List Leaf)(R:Type)(k:Ex→St→Option R):Option R :=
 match ls with
 | [.int a,.str b,.rows d,.int e,.int f,.int g,.int i,.int j,.int l,.int o,.int q,.int t,.int u,.int v,.int z,.int A,.int B,.int C,.int D,.int E,.int F]=>Zae n a b d e f g i j l o q t u v z A B C D E F (fun G H I J K L M N O Q U V W X Y Z a1=>k (.exit 2) ⟨Zea .undef [(2,(TV.ref 0 0)),(5,(TV.val (PV.int .i64 G))),(9,(TV.ref 1 0))] 0 102,[(Ob.box [(TV.val (PV.int .i64 H)),(TV.val (PV.int .i64 I)),(TV.val (PV.int .i64 J)),(TV.val (PV.int .i64 K)),(TV.val (PV.int .i64 L)),(TV.val (PV.int .i64 M)),(TV.val (PV.int .i64 N)),(TV.val (PV.int .i64 O))]),(Ob.pbox (PV.agg [.int .i64 Q,.int .i64 U,.int .i64 V,.int .i64 W,.int .i64 X,.int .i64 Y,.int .i64 Z,.int .i64 a1]) 8)],[]⟩)
   (fun b1 c1 d1 e1 f1 g1 h1 i1 j1=>k .ret ⟨Zea .undef [(2,(TV.ref 0 0)),(3,(TV.val (PV.bool b1)))] 0 102,[(Ob.pbox (PV.agg [.int .i64 c1,.int .i64 d1,.int .i64 e1,.int .i64 f1,.int .i64 g1,.int .i64 h1,.int .i64 i1,.int .i64 j1]) 8)],[]⟩)
 | _=>none
def ZTj (n:Nat)(ls:List Leaf)(R:Type)(k:Ex→St→Option R):Option R :=
 match ls with
 | [.bool a,.int b,.int d,.int e,.int f,.int g,.int i,.int j,.int l,.int o,.int q,.int t,.int u,.int v,.int z,.int A,.int B]=>ZGe n a b d e f g i j l o q t u v z A B (fun C D E F G H I J K=>k .ret ⟨Zea .undef [(2,(TV.ref 0 0)),(3,(TV.val (PV.bool C)))] 0 102,[(Ob.pbox (PV.agg [.int .i64 D,.int .i64 E,.int .i64 F,.int .i64 G,.int .i64 H,.int .i64 I,.int .i64 J,.int .i64 K]) 8)],[]⟩)
   (fun L M N O Q U V W X Y Z a1 b1 c1 d1 e1=>k .normal ⟨Zea .undef [(2,(TV.ref 0 0)),(9,(TV.ref 1 0))] 0 102,[(Ob.box [(TV.val (PV.int .i64 L)),(TV.val (PV.int .i64 M)),(TV.val (PV.int .i64 N)),(TV.val (PV.int .i64 O)),(TV.val (PV.int .i64 Q)),(TV.val (PV.int .i64 U)),(TV.val (PV.int .i64 V)),(TV.val (PV.int .i64 W))]),(Ob.pbox (PV.agg [.int .i64 X,.int .i64 Y,.int .i64 Z,.int .i64 a1,.int .i64 b1,.int .i64 c1,.int .i64 d1,.int .i64 e1]) 8)],[]⟩)
 | _=>none
def Zgf (n:Nat)(ls:List Leaf)(R:Type)(k:Ex→St→Option R):Option R :=
 match ls with
 | [.rows a,.int b,.int d,.int e,.int f,.int g,.int i,.int j,.int l,.int o]=>Z9d n a b d e f g i j l o (fun q t u v z A B C=>k (.exit 0) ⟨Zea .undef [(2,(TV.ref 0 0))] 0 102,[(Ob.box [(TV.val (PV.int .i64 q)),(TV.val (PV.int .i64 t)),(TV.val (PV.int .i64 u)),(TV.val (PV.int .i64 v)),(TV.val (PV.int .i64 z)),(TV.val (PV.int .i64 A)),(TV.val (PV.int .i64 B)),(TV.val (PV.int .i64 C))])],[]⟩)
   (fun D E F G H I J K L=>k .ret ⟨Zea .undef [(2,(TV.ref 0 0)),(3,(TV.val (PV.bool D)))] 0 102,[(Ob.pbox (PV.agg [.int .i64 E,.int .i64 F,.int .i64 G,.int .i64 H,.int .i64 I,.int .i64 J,.int .i64 K,.int .i64 L]) 8)],[]⟩)
 | _=>none
def Zuy (n key:Nat) (ls:List Leaf) (R:Type) (k:Ex→St→Option R):Option R :=
 match key with
 | 9=>Zrf n ls R k
 | 3=>Zgf n ls R k
 | _=>none
def ZIy (n key:Nat) (ls:List Leaf) (R:Type) (k:Ex→St→Option R):Option R :=
 match key with
 | 14=>Zyj n ls R k
 | 18=>ZTj n ls R k
 | _=>none
def Zdq:Code→Bool:=onKeys [14,18]
def ZEi:Nat→Loops:=patL (Zsa ZMc) Zuv Zuy (ZCa ZMc) Zdq ZHt ZIy
theorem Z0B (n:Nat)(a:Rs)(b d e f g i j l o:Int)  (R:Type) (k:Ex→St→Option R) :
  Zza T G0 (Zja ZKe) (Zsa ZMc) (ZEi n) (Zia [1,1,0,1,0,0] (Zca Tryz.f9)) (Zoa ZMp [.rows a,.int b,.int d,.int e,.int f,.int g,.int i,.int j,.int l,.int o]) R k=Zgf (n + 1) [.rows a,.int b,.int d,.int e,.int f,.int g,.int i,.int j,.int l,.int o] R k:=by kernel_rfl
theorem ZBC (n:Nat)(a:Int)(b:ByteArray)(d:Rs)(e f g i j l o q t u v z A B C D E F:Int)  (R:Type) (k:Ex→St→Option R) :
  Zza T G0 (Zja ZKe) (Zsa ZMc) (ZEi n) (Zia [1,1,0,1,0,0,1,0,0,1,1,1,0,1,0,0] (Zca Tryz.f9)) (Zoa Zeq [.int a,.str b,.rows d,.int e,.int f,.int g,.int i,.int j,.int l,.int o,.int q,.int t,.int u,.int v,.int z,.int A,.int B,.int C,.int D,.int E,.int F]) R k=Zrf (n + 1) [.int a,.str b,.rows d,.int e,.int f,.int g,.int i,.int j,.int l,.int o,.int q,.int t,.int u,.int v,.int z,.int A,.int B,.int C,.int D,.int E,.int F] R k:=by kernel_rfl
theorem Zxy (n:Nat)(a:Int)(b:ByteArray)(d e:Int)(f:Rs)(g i:Int)(j:Bool)(l o q t u v z A B C D E F G H I:Int)  (R:Type) (k:Ex→St→Option R) :
  Z0a T G0 (Zja ZKe) (ZCa ZMc) (ZEi n) (Zia [1,1,0,1,0,0,1,0,0,1,1,1,0,1,0,0,1,1,0,0,1,1,0,1] (Zca Tryz.f9)) (Zoa Ztm [.int a,.str b,.int d,.int e,.rows f,.int g,.int i,.bool j,.int l,.int o,.int q,.int t,.int u,.int v,.int z,.int A,.int B,.int C,.int D,.int E,.int F,.int G,.int H,.int I]) R k=Zyj n [.int a,.str b,.int d,.int e,.rows f,.int g,.int i,.bool j,.int l,.int o,.int q,.int t,.int u,.int v,.int z,.int A,.int B,.int C,.int D,.int E,.int F,.int G,.int H,.int I] R k:=by kernel_rfl
theorem Zfz (n:Nat)(a:Bool)(b d e f g i j l o q t u v z A B:Int)  (R:Type) (k:Ex→St→Option R) :
  Z0a T G0 (Zja ZKe) (ZCa ZMc) (ZEi n) (Zia [1,1,0,1,0,0,1,0,0,1,1,1,1,0,1] (Zca Tryz.f9)) (Zoa ZTn [.bool a,.int b,.int d,.int e,.int f,.int g,.int i,.int j,.int l,.int o,.int q,.int t,.int u,.int v,.int z,.int A,.int B]) R k=ZTj n [.bool a,.int b,.int d,.int e,.int f,.int g,.int i,.int j,.int l,.int o,.int q,.int t,.int u,.int v,.int z,.int A,.int B] R k:=by kernel_rfl
theorem ZnI (n:Nat)(a:ByteArray) :
  funK T G0 (Zja ZKe) (ZEi n) .d true [none] (Zfa Tryz.f9) [.str a]=ZIi n  a (fun a0 a1 a2 a3 a4 a5 a6 a7 a8=>some (ZRy (a0,a1,a2,a3,a4,a5,a6,a7,a8))):=by kernel_rfl
theorem ZHF {ps:Cs} {y:Int × Int × Int × Int × Int × Int × Int × Int × Bool} (h:Zss ps=some y):∃ (a:ByteArray),ps=[.str a]:=by
 unfold Zss at h
 split at h
 ·exact ⟨_,rfl⟩
 ·cases h
theorem ZXs:Zpa (Zca Tryz.f9)=[Zia [1,1,0,1,0,0] (Zca Tryz.f9),Zia [1,1,0,1,0,0,1,0,0,1,1,1,0,1,0,0] (Zca Tryz.f9)]:=by kernel_rfl
theorem ZgC:(ZAa (Zca Tryz.f9)).filter Zdq=[Zia [1,1,0,1,0,0,1,0,0,1,1,1,0,1,0,0,1,1,0,0,1,1,0,1] (Zca Tryz.f9),Zia [1,1,0,1,0,0,1,0,0,1,1,1,1,0,1] (Zca Tryz.f9)]:=by kernel_rfl
theorem Z9B (hΓ:Zga Tryz.prog G0 ZKe) (hok:∀ (a:ByteArray)(y:Int × Int × Int × Int × Int × Int × Int × Int × Bool),ZJe a=some y→∃ n,∀ (R:Type)(k:Int→Int→Int→Int→Int→Int→Int→Int→Bool→Option R),ZIi n  a k=k y.1 y.2.1 y.2.2.1 y.2.2.2.1 y.2.2.2.2.1 y.2.2.2.2.2.1 y.2.2.2.2.2.2.1 y.2.2.2.2.2.2.2.1 y.2.2.2.2.2.2.2.2):Zka Tryz.prog G0 9 ZSs:=by
 refine ZHa mixed tOk (Zna hΓ) Tryz.func9 rfl rfl rfl rfl (F:=Zfa Tryz.f9) (ZBa ZMc) (pat:=Zuv) (L:=Zuy) (ZFa ZMc) (on:=Zdq) (patj:=ZHt) (J:=ZIy) (fun c hc ls R k=>?_) (fun c hc p hp m ls R k r h=>?_) (fun c hc p hp m ls R k r h=>?_) (fun ps x h=>?_)
 ·rw [show (Zfa Tryz.f9).code=Zca Tryz.f9 from rfl,ZXs] at hc
  simp only [List.mem_cons,List.not_mem_nil,or_false] at hc
  rcases hc with rfl | rfl
  ·show Zgf 0 ls R k=none
   unfold Zgf
   split
   ·rfl
   ·rfl
  ·show Zrf 0 ls R k=none
   unfold Zrf
   split
   ·rfl
   ·rfl
 ·rw [show (Zfa Tryz.f9).code=Zca Tryz.f9 from rfl,ZXs] at hc
  simp only [List.mem_cons,List.not_mem_nil,or_false] at hc
  rcases hc with rfl | rfl
  ·obtain rfl:ZMp=p:=Option.some.inj hp
   change Zgf (m + 1) ls R k=some r at h
   have h':=h
   unfold Zgf at h'
   split at h'
   ·exact (Z0B m _ _ _ _ _ _ _ _ _ _ R k).trans h
   ·cases h'
  ·obtain rfl:Zeq=p:=Option.some.inj hp
   change Zrf (m + 1) ls R k=some r at h
   have h':=h
   unfold Zrf at h'
   split at h'
   ·exact (ZBC m _ _ _ _ _ _ _ _ _ _ _ _ _ _ _ _ _ _ _ _ _ R k).trans h
   ·cases h'
 ·rw [show (Zfa Tryz.f9).code=Zca Tryz.f9 from rfl,ZgC] at hc
  simp only [List.mem_cons,List.not_mem_nil,or_false] at hc
  rcases hc with rfl | rfl
  ·obtain rfl:Ztm=p:=Option.some.inj hp
   change Zyj m ls R k=some r at h
   have h':=h
   unfold Zyj at h'
   split at h'
   ·exact (Zxy m _ _ _ _ _ _ _ _ _ _ _ _ _ _ _ _ _ _ _ _ _ _ _ _ R k).trans h
   ·cases h'
  ·obtain rfl:ZTn=p:=Option.some.inj hp
   change ZTj m ls R k=some r at h
   have h':=h
   unfold ZTj at h'
   split at h'
   ·exact (Zfz m _ _ _ _ _ _ _ _ _ _ _ _ _ _ _ _ _ R k).trans h
   ·cases h'
 ·obtain ⟨y,hy,hx⟩:=Zba h
  cases hx
  obtain ⟨a,rfl⟩:=ZHF hy
  obtain ⟨n,hn⟩:=hok a y hy
  exact ⟨n,(ZnI n a).trans (hn _ _)⟩
def Ztj {R:Type} (i1 i2 i3 i4:Rs)(a:Int)(k:Bool→Option R):Option R :=
 cond (decide (a ≥ (0:Int))) (
  k (decide (a < (i1.length:Int)))) (
  k false)
def ZHz (y:Bool):PV × Cs:=((PV.bool y),[])
def Z0b (i1 i2 i3 i4:Rs)(a:Int):Option (Bool):=Ztj i1 i2 i3 i4 a fun a0=>some a0
def ZZs:Cs→Option (Bool)
 | [.agg [.fs i1,.fs i2,.fs i3,.fs i4],.int .i64 a]=>Z0b i1 i2 i3 i4 a
 | _=>none
def ZDs:List (Nat × Cal):=[(1000000002,ro_I)]
def ZTe:Ctr:=⟨[none,none],Bool,ZZs,ZHz,true,.d⟩
theorem Z0H (i1 i2 i3 i4:Rs)(a:Int) :
  funK T G0 (Zja ZDs) noL .d true [none,none] (Zfa Tryz.f40) [.agg [.fs i1,.fs i2,.fs i3,.fs i4],.int .i64 a]=Ztj  i1 i2 i3 i4 a (fun a0=>some (ZHz a0)):=by kernel_rfl
theorem ZmG {ps:Cs} {y:Bool} (h:ZZs ps=some y):∃ (i1:Rs) (i2:Rs) (i3:Rs) (i4:Rs) (a:Int),ps=[.agg [.fs i1,.fs i2,.fs i3,.fs i4],.int .i64 a]:=by
 unfold ZZs at h
 split at h
 ·exact ⟨_,_,_,_,_,rfl⟩
 ·cases h
theorem Z3F {R:Type} (i1 i2 i3 i4:Rs)(a:Int)(k:Bool→Option R):Ztj i1 i2 i3 i4 a k=Option.bind (Ztj i1 i2 i3 i4 a fun a0=>some a0) fun y=>k y:=by
 unfold Ztj
 first | rfl | simp only [Option.bind_assoc,Zya,Zxa,Option.bind_some,Option.bind_none]
theorem ZjC (hΓ:Zga Tryz.prog G0 ZDs):Zka Tryz.prog G0 40 ZTe:=by
 refine ZIa mixed tOk (Zna hΓ) Tryz.func40 rfl rfl rfl rfl (F:=Zfa Tryz.f40) (fun ps x h=>?_)
 obtain ⟨y,hy,hx⟩:=Zba h
 cases hx
 obtain ⟨i1,i2,i3,i4,a,rfl⟩:=ZmG hy
 have hy':Z0b i1 i2 i3 i4 a=some y:=hy
 refine ⟨noL,ZKa _,(Z0H i1 i2 i3 i4 a).trans ?_⟩
 unfold Z0b at hy'
 rw [Z3F,hy']
 rfl
def ZYk {R:Type} (i1 i2 i3 i4:Rs)(c5 c6 c7 c8 c9 a b d:Int)(k:Rs→Option R):Option R :=
 Option.bind (Z0b i1 i2 i3 i4 c7) fun e =>
 cond (!e) (
  k []) (
  cond (d ==(-1:Int)) (
   k [[.int .i64 c7]]) (
   Option.bind (Z0b i1 i2 i3 i4 d) fun f =>
   cond (!f) (
    k []) (
    cond (d == c7) (
     k []) (
     k [[.int .i64 c7],[.int .i64 d]]))))
def ZXB (y:Rs):PV × Cs:=((PV.fs y),[])
def ZMo (i1 i2 i3 i4:Rs)(c5 c6 c7 c8 c9 a b d:Int):Option (Rs):=ZYk i1 i2 i3 i4 c5 c6 c7 c8 c9 a b d fun a0=>some a0
def Z4u:Cs→Option (Rs)
 | [.agg [.fs i1,.fs i2,.fs i3,.fs i4],.agg [.int .i64 c5,.int .i64 c6,.int .i64 c7,.int .i64 c8,.int .i64 c9,.int .i64 a,.int .i64 b,.int .i64 d]]=>ZMo i1 i2 i3 i4 c5 c6 c7 c8 c9 a b d
 | _=>none
def Z5t:List (Nat × Cal):=[(40,.ctr ZTe),(1000000002,ro_I),(1000000003,ro_I)]
def Z0t:Ctr:=⟨[none,none],Rs,Z4u,ZXB,false,.d⟩
theorem ZJI (i1 i2 i3 i4:Rs)(c5 c6 c7 c8 c9 a b d:Int) :
  funK T G0 (Zja Z5t) noL .d false [none,none] (Zfa Tryz.f158) [.agg [.fs i1,.fs i2,.fs i3,.fs i4],.agg [.int .i64 c5,.int .i64 c6,.int .i64 c7,.int .i64 c8,.int .i64 c9,.int .i64 a,.int .i64 b,.int .i64 d]]=ZYk  i1 i2 i3 i4 c5 c6 c7 c8 c9 a b d (fun a0=>some (ZXB a0)):=by kernel_rfl
theorem ZqH {ps:Cs} {y:Rs} (h:Z4u ps=some y):∃ (i1:Rs) (i2:Rs) (i3:Rs) (i4:Rs) (c5:Int) (c6:Int) (c7:Int) (c8:Int) (c9:Int) (a:Int) (b:Int) (d:Int),ps=[.agg [.fs i1,.fs i2,.fs i3,.fs i4],.agg [.int .i64 c5,.int .i64 c6,.int .i64 c7,.int .i64 c8,.int .i64 c9,.int .i64 a,.int .i64 b,.int .i64 d]]:=by
 unfold Z4u at h
 split at h
 ·exact ⟨_,_,_,_,_,_,_,_,_,_,_,_,rfl⟩
 ·cases h
theorem ZpI {R:Type} (i1 i2 i3 i4:Rs)(c5 c6 c7 c8 c9 a b d:Int)(k:Rs→Option R):ZYk i1 i2 i3 i4 c5 c6 c7 c8 c9 a b d k=Option.bind (ZYk i1 i2 i3 i4 c5 c6 c7 c8 c9 a b d fun a0=>some a0) fun y=>k y:=by
 unfold ZYk
 first | rfl | simp only [Option.bind_assoc,Zya,Zxa,Option.bind_some,Option.bind_none]
theorem ZhE (hΓ:Zga Tryz.prog G0 Z5t):Zka Tryz.prog G0 158 Z0t:=by
 refine ZIa mixed tOk (Zna hΓ) Tryz.func158 rfl rfl rfl rfl (F:=Zfa Tryz.f158) (fun ps x h=>?_)
 obtain ⟨y,hy,hx⟩:=Zba h
 cases hx
 obtain ⟨i1,i2,i3,i4,c5,c6,c7,c8,c9,a,b,d,rfl⟩:=ZqH hy
 have hy':ZMo i1 i2 i3 i4 c5 c6 c7 c8 c9 a b d=some y:=hy
 refine ⟨noL,ZKa _,(ZJI i1 i2 i3 i4 c5 c6 c7 c8 c9 a b d).trans ?_⟩
 unfold ZMo at hy'
 rw [ZpI,hy']
 rfl
def ZEh {R:Type} (i1 i2 i3 i4 p5 p6 p7 p8 p9 a:Rs)(b d e f g i j l o q:Int)(k:Unit→Option R):Option R :=
 Option.bind (ZMo i1 i2 i3 i4 e f g i j l o q) fun t =>
 cond ((t.length:Int) ==(0:Int)) (
  k ()) (
  none)
def ZNx (_:Unit):PV × Cs:=(PV.pnil,[])
def Zzh (i1 i2 i3 i4 p5 p6 p7 p8 p9 a:Rs)(b d e f g i j l o q:Int):Option (Unit):=ZEh i1 i2 i3 i4 p5 p6 p7 p8 p9 a b d e f g i j l o q fun _=>some ()
def ZUp:Cs→Option (Unit)
 | [.agg [.fs i1,.fs i2,.fs i3,.fs i4],.agg [.fs p5,.fs p6,.fs p7,.fs p8,.fs p9,.fs a,.int .i64 b],.int .i64 d,.agg [.int .i64 e,.int .i64 f,.int .i64 g,.int .i64 i,.int .i64 j,.int .i64 l,.int .i64 o,.int .i64 q]]=>Zzh i1 i2 i3 i4 p5 p6 p7 p8 p9 a b d e f g i j l o q
 | _=>none
def Zpq:List (Nat × Cal):=[(158,.ctr Z0t),(1000000004,ro_I),(1000000005,ro_I),(1000000007,ro_I)]
def Z6p:Ctr:=⟨[none,none,none,none],Unit,ZUp,ZNx,true,.d⟩
theorem ZZF (i1 i2 i3 i4 p5 p6 p7 p8 p9 a:Rs)(b d e f g i j l o q:Int) :
  funK T G0 (Zja Zpq) noL .d true [none,none,none,none] (Zfa Tryz.f101) [.agg [.fs i1,.fs i2,.fs i3,.fs i4],.agg [.fs p5,.fs p6,.fs p7,.fs p8,.fs p9,.fs a,.int .i64 b],.int .i64 d,.agg [.int .i64 e,.int .i64 f,.int .i64 g,.int .i64 i,.int .i64 j,.int .i64 l,.int .i64 o,.int .i64 q]]=ZEh  i1 i2 i3 i4 p5 p6 p7 p8 p9 a b d e f g i j l o q (fun _=>some (ZNx ())):=by kernel_rfl
theorem ZEE {ps:Cs} {y:Unit} (h:ZUp ps=some y):∃ (i1:Rs) (i2:Rs) (i3:Rs) (i4:Rs) (p5:Rs) (p6:Rs) (p7:Rs) (p8:Rs) (p9:Rs) (a:Rs) (b:Int) (d:Int) (e:Int) (f:Int) (g:Int) (i:Int) (j:Int) (l:Int) (o:Int) (q:Int),ps=[.agg [.fs i1,.fs i2,.fs i3,.fs i4],.agg [.fs p5,.fs p6,.fs p7,.fs p8,.fs p9,.fs a,.int .i64 b],.int .i64 d,.agg [.int .i64 e,.int .i64 f,.int .i64 g,.int .i64 i,.int .i64 j,.int .i64 l,.int .i64 o,.int .i64 q]]:=by
 unfold ZUp at h
 split at h
 ·exact ⟨_,_,_,_,_,_,_,_,_,_,_,_,_,_,_,_,_,_,_,_,rfl⟩
 ·cases h
theorem ZtD {R:Type} (i1 i2 i3 i4 p5 p6 p7 p8 p9 a:Rs)(b d e f g i j l o q:Int)(k:Unit→Option R):ZEh i1 i2 i3 i4 p5 p6 p7 p8 p9 a b d e f g i j l o q k=Option.bind (ZEh i1 i2 i3 i4 p5 p6 p7 p8 p9 a b d e f g i j l o q fun _=>some ()) fun y=>k y:=by
 unfold ZEh
 first | rfl | simp only [Option.bind_assoc,Zya,Zxa,Option.bind_some,Option.bind_none]
theorem ZLA (hΓ:Zga Tryz.prog G0 Zpq):Zka Tryz.prog G0 101 Z6p:=by
 refine ZIa mixed tOk (Zna hΓ) Tryz.func101 rfl rfl rfl rfl (F:=Zfa Tryz.f101) (fun ps x h=>?_)
 obtain ⟨y,hy,hx⟩:=Zba h
 cases hx
 obtain ⟨i1,i2,i3,i4,p5,p6,p7,p8,p9,a,b,d,e,f,g,i,j,l,o,q,rfl⟩:=ZEE hy
 have hy':Zzh i1 i2 i3 i4 p5 p6 p7 p8 p9 a b d e f g i j l o q=some y:=hy
 refine ⟨noL,ZKa _,(ZZF i1 i2 i3 i4 p5 p6 p7 p8 p9 a b d e f g i j l o q).trans ?_⟩
 unfold Zzh at hy'
 rw [ZtD,hy']
 rfl
def Zxk {R:Type} (k:Rs→Option R):Option R :=
 k [[.str (ByteArray.mk #[97,114,103])],[.str (ByteArray.mk #[102,111,114,109])],[.str (ByteArray.mk #[108,111,110,103])],[.str (ByteArray.mk #[115,116,111,112])],[.str (ByteArray.mk #[99,97,114])],[.str (ByteArray.mk #[112,108,97,99,101])],[.str (ByteArray.mk #[112,97,105,114])],[.str (ByteArray.mk #[116,104,101,114,101])],[.str (ByteArray.mk #[103,111,110,101])],[.str (ByteArray.mk #[115,97,109,101])],[.str (ByteArray.mk #[105,99,101,100])],[.str (ByteArray.mk #[104,101,108,100])],[.str (ByteArray.mk #[102,105,116])],[.str (ByteArray.mk #[110,111,110,101])],[.str (ByteArray.mk #[99,111,110,102,108,105,99,116])],[.str (ByteArray.mk #[98,117,115,121])]]
def ZhB (y:Rs):PV × Cs:=((PV.fs y),[])
def ZQo:Option (Rs):=Zxk fun a0=>some a0
def Z6t:Cs→Option (Rs)
 | []=>ZQo
 | _=>none
def ZJB:List (Nat × Cal):=[]
def ZDu:Ctr:=⟨[],Rs,Z6t,ZhB,false,.d⟩
theorem ZvJ :
  funK T G0 (Zja ZJB) noL .d false [] (Zfa Tryz.f106) []=Zxk  (fun a0=>some (ZhB a0)):=by kernel_rfl
theorem ZpH {ps:Cs} {y:Rs} (h:Z6t ps=some y):ps=[]:=by
 unfold Z6t at h
 split at h
 ·rfl
 ·cases h
theorem ZfH {R:Type} (k:Rs→Option R):Zxk k=Option.bind (Zxk fun a0=>some a0) fun y=>k y:=by
 unfold Zxk
 first | rfl | simp only [Option.bind_assoc,Zya,Zxa,Option.bind_some,Option.bind_none]
theorem Z2D (hΓ:Zga Tryz.prog G0 ZJB):Zka Tryz.prog G0 106 ZDu:=by
 refine ZIa mixed tOk (Zna hΓ) Tryz.func106 rfl rfl rfl rfl (F:=Zfa Tryz.f106) (fun ps x h=>?_)
 obtain ⟨y,hy,hx⟩:=Zba h
 cases hx
 obtain rfl:=ZpH hy
 have hy':ZQo=some y:=hy
 refine ⟨noL,ZKa _,(ZvJ).trans ?_⟩
 unfold ZQo at hy'
 rw [ZfH,hy']
 rfl
def ZFs {R:Type} (e1:Int)(k:ByteArray→Option R):Option R :=
 Option.bind (ZQo) fun y2 =>
 cond (decide (e1 < (1:Int))) (
  k (ByteArray.mk #[110,111,32,119,104,97,116])) (
  cond (decide (e1 > (y2.length:Int))) (
   k (ByteArray.mk #[110,111,32,119,104,97,116])) (
   Option.bind (idx y2 (IntKind.i64.wrap (e1 - (1:Int)))) fun e3 =>
   if e3.length=1 then
    Option.bind (e3[0]?) fun c4 =>
    Option.bind (PV.asS c4) fun s5 =>
    if ((ByteArray.mk #[110,111,32])).size + (s5).size≤140737488355328 then
     k ((ByteArray.mk #[110,111,32]) ++ s5)
    else none
   else none))
def Z3I (y:ByteArray):PV × Cs:=((PV.str y),[])
def Z5d (e1:Int):Option (ByteArray):=ZFs e1 fun a0=>some a0
def ZqC:Cs→Option (ByteArray)
 | [.int .i64 e1]=>Z5d e1
 | _=>none
def Z8C:List (Nat × Cal):=[(106,.ctr ZDu)]
def Z8r:Ctr:=⟨[none],ByteArray,ZqC,Z3I,true,.d⟩
theorem ZlL (e1:Int) :
  funK T G0 (Zja Z8C) noL .d true [none] (Zfa Tryz.f41) [.int .i64 e1]=ZFs  e1 (fun a0=>some (Z3I a0)):=by kernel_rfl
theorem ZRK {ps:Cs} {y:ByteArray} (h:ZqC ps=some y):∃ (e1:Int),ps=[.int .i64 e1]:=by
 unfold ZqC at h
 split at h
 ·exact ⟨_,rfl⟩
 ·cases h
theorem ZbL {R:Type} (e1:Int)(k:ByteArray→Option R):ZFs e1 k=Option.bind (ZFs e1 fun a0=>some a0) fun y=>k y:=by
 unfold ZFs
 first | rfl | simp only [Option.bind_assoc,Zya,Zxa,Option.bind_some,Option.bind_none]
theorem Z0I (hΓ:Zga Tryz.prog G0 Z8C):Zka Tryz.prog G0 41 Z8r:=by
 refine ZIa mixed tOk (Zna hΓ) Tryz.func41 rfl rfl rfl rfl (F:=Zfa Tryz.f41) (fun ps x h=>?_)
 obtain ⟨y,hy,hx⟩:=Zba h
 cases hx
 obtain ⟨e1,rfl⟩:=ZRK hy
 have hy':Z5d e1=some y:=hy
 refine ⟨noL,ZKa _,(ZlL e1).trans ?_⟩
 unfold Z5d at hy'
 rw [ZbL,hy']
 rfl
def Zjj {R:Type} (k:Rs→Rs→Rs→ByteArray→Option R):Option R :=
 Option.bind (Z5d 5) fun y1 =>
 k [] [] [] y1
def ZiA (y:Rs × Rs × Rs × ByteArray):PV × Cs:=((PV.tuple [.agg [.fs y.1,.fs y.2.1,.fs y.2.2.1],.str y.2.2.2]),[])
def ZFi:Option (Rs × Rs × Rs × ByteArray):=Zjj fun a0 a1 a2 a3=>some (a0,a1,a2,a3)
def Zwr:Cs→Option (Rs × Rs × Rs × ByteArray)
 | [PV.pnil]=>ZFi
 | _=>none
def ZGs:List (Nat × Cal):=[(41,.ctr Z8r)]
def Zsr:Ctr:=⟨[none],Rs × Rs × Rs × ByteArray,Zwr,ZiA,false,.d⟩
theorem ZVH :
  funK T G0 (Zja ZGs) noL .d false [none] (Zfa Tryz.f103) [PV.pnil]=Zjj  (fun a0 a1 a2 a3=>some (ZiA (a0,a1,a2,a3))):=by kernel_rfl
theorem ZzF {ps:Cs} {y:Rs × Rs × Rs × ByteArray} (h:Zwr ps=some y):ps=[PV.pnil]:=by
 unfold Zwr at h
 split at h
 ·rfl
 ·cases h
theorem ZlF {R:Type} (k:Rs→Rs→Rs→ByteArray→Option R):Zjj k=Option.bind (Zjj fun a0 a1 a2 a3=>some (a0,a1,a2,a3)) fun y=>k y.1 y.2.1 y.2.2.1 y.2.2.2:=by
 unfold Zjj
 first | rfl | simp only [Option.bind_assoc,Zya,Zxa,Option.bind_some,Option.bind_none]
theorem ZXC (hΓ:Zga Tryz.prog G0 ZGs):Zka Tryz.prog G0 103 Zsr:=by
 refine ZIa mixed tOk (Zna hΓ) Tryz.func103 rfl rfl rfl rfl (F:=Zfa Tryz.f103) (fun ps x h=>?_)
 obtain ⟨y,hy,hx⟩:=Zba h
 cases hx
 obtain rfl:=ZzF hy
 have hy':ZFi=some y:=hy
 refine ⟨noL,ZKa _,(ZVH).trans ?_⟩
 unfold ZFi at hy'
 rw [ZlF,hy']
 rfl
end
end Go.Proofs.YtgpjfmihogaooaaGreatDoorV
