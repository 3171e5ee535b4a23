/- Problems: as plain data; how numbers make one. -/
import Derived.Test.YtpaifgipdhgfkaaS02
namespace Go.Proofs.YtpaifgipdhgfkaaV
open Go

abbrev Car := Int × Int × Int
abbrev Stp := Int × Int × Int × Int
structure Inst where
  cars : List Car
  stops : List Stp
  pairs : List (Int × Int)
  travel : List (List Int)
def carRow (l : List Car) : List (List PV) := l.map fun c => [.int .i64 c.1, .int .i64 c.2.1, .int .i64 c.2.2]
def stpRow (l : List Stp) : List (List PV) := l.map fun c => [.int .i64 c.1, .int .i64 c.2.1, .int .i64 c.2.2.1, .int .i64 c.2.2.2]
def prRow (l : List (Int × Int)) : List (List PV) := l.map fun c => [.int .i64 c.1, .int .i64 c.2]
def trRow (l : List (List Int)) : List (List PV) := l.map fun r => [.fs (iRow r)]
def unCar1 : List PV → Option Car | [.int .i64 a, .int .i64 b, .int .i64 c] => if inI a = true ∧ inI b = true ∧ inI c = true then some (a, b, c) else none | _ => none
def unCar : List (List PV) → Option (List Car) | [] => some [] | e :: es => (unCar1 e).bind fun a => (unCar es).bind fun l => some (a :: l)
def unStp1 : List PV → Option Stp | [.int .i64 a, .int .i64 b, .int .i64 c, .int .i64 d] => if inI a = true ∧ inI b = true ∧ inI c = true ∧ inI d = true then some (a, b, c, d) else none | _ => none
def unStp : List (List PV) → Option (List Stp) | [] => some [] | e :: es => (unStp1 e).bind fun a => (unStp es).bind fun l => some (a :: l)
def unPr1 : List PV → Option (Int × Int) | [.int .i64 a, .int .i64 b] => if inI a = true ∧ inI b = true then some (a, b) else none | _ => none
def unPr : List (List PV) → Option (List (Int × Int)) | [] => some [] | e :: es => (unPr1 e).bind fun a => (unPr es).bind fun l => some (a :: l)
def unTr1 : List PV → Option (List Int) | [.fs r] => unI r | _ => none
def unTr : List (List PV) → Option (List (List Int)) | [] => some [] | e :: es => (unTr1 e).bind fun a => (unTr es).bind fun l => some (a :: l)
def unInst (a b c d : List (List PV)) : Option Inst := (unCar a).bind fun cars => (unStp b).bind fun stops => (unPr c).bind fun pairs => (unTr d).bind fun travel => some ⟨cars, stops, pairs, travel⟩

/-! How numbers make one. -/
def w64 (n : Int) : Int := IntKind.i64.wrap n
/-- The number at a place of a list, and on from its end. -/
def numV (l : List Int) (k : Nat) : Int := if l = [] then w64 ((k : Int) * 7) else w64 (w64 (Int.tdiv (l.getD (k % l.length) 0) (w64 (1 + w64 ((k / l.length : Nat) : Int)))) + w64 ((k / l.length : Nat) : Int))
def wn (n : Int) (m : Nat) : Int := n % (m : Int)
def carAt (l : List Int) (k : Nat) : Car := let n := numV l (1 + k); ([20, 60, 9, 30].getD (wn n 4).toNat 0, wn (w64 (Int.tdiv n 4)) 9, [1000, 200, 90, 60].getD (wn (w64 (Int.tdiv n 36)) 4).toNat 0)
def carsOf (l : List Int) : List Car := (List.range (1 + (wn (numV l 0) 3).toNat)).map (carAt l)
def sizeOf' (l : List Int) : Nat := 2 + (wn (numV l 4) 7).toNat
def stopAt (l : List Int) (k : Nat) : Stp :=
  let n := numV l (5 + k)
  let o := wn (w64 (Int.tdiv n 8)) 30
  let c := o + [900, 60, 25, 8].getD (wn (w64 (Int.tdiv n 7)) 4).toNat 0
  (if wn n 9 = 8 then -1 - wn (w64 (Int.tdiv n 9)) 4 else wn n 8, o, (if 1000 < c then 1000 else c), wn (w64 (Int.tdiv n 240)) 6)
def stopsOf (l : List Int) : List Stp := (List.range (sizeOf' l)).map (stopAt l)
def setDemand (s : List Stp) (j : Nat) (d : Int) : List Stp := s.set j (d, (s.getD j (0, 0, 0, 0)).2)
def pairOf (l : List Int) (k : Nat) : Nat × Nat := if wn (numV l (15 + k)) 2 = 1 then (2 * k + 2, 2 * k + 1) else (2 * k + 1, 2 * k + 2)
def pairStep (l : List Int) (k : Nat) (s : List Stp) : List Stp := let d := wn (numV l (16 + k)) 9; setDemand (setDemand s ((pairOf l k).1 - 1) d) ((pairOf l k).2 - 1) (-d)
def pairsFrom (l : List Int) (size : Nat) : Nat → Nat → List Stp → List (Int × Int) → List Stp × List (Int × Int)
  | 0, _, s, p => (s, p)
  | f + 1, k, s, p => if k < (wn (numV l 14) 3).toNat ∧ 2 * k + 2 ≤ size then pairsFrom l size f (k + 1) (pairStep l k s) (p ++ [(((pairOf l k).1 : Int), ((pairOf l k).2 : Int))]) else (s, p)
def tripAt (l : List Int) (a b : Nat) : Int := if a = b then 0 else 1 + wn (numV l (20 + 3 * a + 5 * b)) 14
def travelOf (l : List Int) : List (List Int) := (List.range (sizeOf' l + 1)).map fun a => (List.range (sizeOf' l + 1)).map (tripAt l a)
def instOf (l : List Int) : Inst :=
  let sp := pairsFrom l (sizeOf' l) 4 0 (stopsOf l) []
  ⟨carsOf l, sp.1, sp.2, travelOf l⟩
def sPInst (l : List (List PV)) : Option (List (List PV) × List (List PV) × List (List PV) × List (List PV)) := (unI l).bind fun l => if l.length ≤ maxLen then some (carRow (instOf l).cars, stpRow (instOf l).stops, prRow (instOf l).pairs, trRow (instOf l).travel) else none
end Go.Proofs.YtpaifgipdhgfkaaV
