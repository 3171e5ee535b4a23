/- The reading machine: values without memory, frames, operations: definitions alone. -/
import Derived.WalkKit
namespace Go.Proofs.YtgpjnppakffoiaaV
open Go

/-- A value as a tree: what a slice, a pointer leads to stands in it. -/
inductive PV where
  | bool (b : Bool)
  | int (k : IntKind) (n : Int)
  | str (s : ByteArray)
  | fs (es : List (List PV))
  | os (es : List (List PV)) (sz : Nat)
  | agg (cs : List PV)
  | tuple (cs : List PV)
  | pnil
  | rp (cs : List PV) (off : Nat)
  | obj (cs : List PV)
  | fn (f : Fn) (caps : List PV)
  | fnil
  | mnil
  | undef
  deriving Inhabited

/-- What a slot of a frame, or a cell of a local variable, holds. -/
inductive TV where
  | val (p : PV)
  | nil (sz : Nat)
  | ref (id off : Nat)
  | eref (id i j : Nat)
  | ow (id : Nat)
  | sl (id off len : Nat) (capped : Bool)
  | vc (es : List (List PV))
  | mp (id : Nat)
  | it (id : Nat)
  | agg (cs : List TV)
  | tuple (cs : List TV)
  | fn (f : Fn) (caps : List TV)
  | undef
  deriving Inhabited

/-- Memory of the call's own. -/
inductive Ob where
  | box (cs : List TV)
  | pbox (p : PV) (n : Nat)
  | row (es : List (List PV)) (sz : Nat)
  | map (kvs : List (PV × PV))
  | sit (s : ByteArray) (pos : Nat)
  | fro (p : PV)
  | dead
  deriving Inhabited

/-- Types, as far as they are asked. -/
inductive TD where
  | bool | int (k : IntKind) | string
  | slice (e : TypeId) | array (n : Nat) (e : TypeId) | struct (fs : List (TypeId × Nat))
  | map (k e : TypeId) | ptr (e : TypeId) | func | other
  deriving DecidableEq

def TD.isAgg : TD → Bool | .struct _ => true | .array _ _ => true | _ => false

structure TI where
  size : Nat
  bytes : Nat
  desc : TD
  zero : List TV

/-- What of an answer is memory that nobody else has: nothing (d), a slice, what a pointer leads to, parts. -/
inductive Shp where
  | d | s | o (cs : List Shp) | a (cs : List Shp) | t (cs : List Shp)
  deriving Inhabited

/-- A function by what it answers: of its arguments as trees (D says what, if anything, E how that stands in trees); behind it the arguments that it was given, and gives back (those with a shape, and 'true'). 'scal': its answer leads to no memory that it was lent. -/
structure Ctr where
  modes : List (Option (Shp × Bool))
  α : Type
  D : List PV → Option α
  E : α → PV × List PV
  scal : Bool
  res : Shp
def Ctr.F (c : Ctr) (ps : List PV) : Option (PV × List PV) := (c.D ps).bind fun y => some (c.E y)

def PV.asB : PV → Option Bool | .bool b => some b | _ => none
def PV.asI (k : IntKind) : PV → Option Int | .int k' n => if k' = k then some n else none | _ => none
def PV.asS : PV → Option ByteArray | .str s => some s | _ => none
def PV.asFs : PV → Option (List (List PV)) | .fs es => some es | _ => none
def PV.asOs : PV → Option (List (List PV) × Nat) | .os es sz => some (es, sz) | _ => none
def PV.asObj : PV → Option (List PV) | .obj cs => some cs | _ => none
def PV.asAgg : PV → Option (List PV) | .agg cs => some cs | _ => none
def PV.asTup : PV → Option (List PV) | .tuple cs => some cs | _ => none
def PV.cells : PV → List PV | .agg cs => cs | p => [p]
def PV.cell (p : PV) (j : Nat) : Option PV := p.cells[j]?
def PV.sub (p : PV) (off n : Nat) : PV := .agg ((p.cells.drop off).take n)
def PV.setc (p : PV) (j : Nat) (x : PV) : PV := match p with | .agg cs => .agg (cs.set j x) | q => q
def PV.isAgg (p : PV) (n : Nat) : Bool := match p with | .agg cs => cs.length == n | _ => false
def PV.proj (p : PV) (j : Nat) : Option PV := match p with | .tuple cs => cs[j]? | _ => none
/-- Is it one cell? -/
def PV.one : PV → Bool | .agg _ => false | .tuple _ => false | .undef => false | .os _ _ => false | .obj _ => false | _ => true
def TV.one : TV → Bool | .val p => p.one | .agg _ => false | .tuple _ => false | .undef => false | _ => true
/-- An element of a list by an int. -/
def idx {α : Type} (es : List α) (i : Int) : Option α := if 0 ≤ i then es[i.toNat]? else none
def subAgg (e : List PV) (off n : Nat) : Option PV := if off + n ≤ e.length then some (.agg ((e.drop off).take n)) else none

def constTV : Value → Option TV
  | .bool b => some (.val (.bool b))
  | .int k n => some (.val (.int k n))
  | .string s => some (.val (.str s))
  | .slice none 0 0 => some (.nil 0)
  | .pointer none => some (.val .pnil)
  | .nilFunc => some (.val .fnil)
  | .map none => some (.val .mnil)
  | _ => none

def evalO (G : Nat → Option (List PV)) (tm : List TV) : Operand → Option TV
  | .tmp t => tm[t]?
  | .const v => constTV v
  | .global g => match G g with | some cs => some (.val (.rp cs 0)) | none => none
  | .func f => some (.val (.fn (.func f) []))

/-- A list, each of which there must be. -/
def allSome {α : Type} : List (Option α) → Option (List α)
  | [] => some []
  | some a :: l => match allSome l with | some r => some (a :: r) | none => none
  | none :: _ => none

/-- A tree as its type says it is. -/
def coeK {R : Type} (T : TypeId → Option TI) (t : TypeId) (c : PV) (k : PV → Option R) : Option R :=
  match T t with
  | some ⟨_, _, .int ik, _⟩ => (c.asI ik).bind fun n => k (.int ik n)
  | some ⟨_, _, .bool, _⟩ => c.asB.bind fun b => k (.bool b)
  | some ⟨_, _, .string, _⟩ => c.asS.bind fun s => k (.str s)
  | some ⟨_, _, .slice _, _⟩ => c.asFs.bind fun es => k (.fs es)
  | some ⟨_, _, .struct _, _⟩ => k c
  | some ⟨_, _, .array _ _, _⟩ => k c
  | none => k c
  | _ => if c.one then k c else none

def tsize (T : TypeId → Option TI) (t : TypeId) : Nat := match T t with | some i => i.size | none => 0
def isAggT (T : TypeId → Option TI) (t : TypeId) : Bool :=
  match T t with | some ⟨_, _, .struct _, _⟩ => true | some ⟨_, _, .array _ _, _⟩ => true | _ => false

/-- nil of a slice type knows how many cells an element has. -/
def fixNil (T : TypeId → Option TI) (t : TypeId) (v : TV) : TV :=
  match v with
  | .nil 0 => match T t with | some ⟨_, _, .slice e, _⟩ => .nil (tsize T e) | _ => .nil 0
  | v => v

mutual
/-- What lies in the call's own memory as a tree, and which memory that is. -/
def reify (look : Nat → Option Ob) : Nat → TV → Option (PV × List Nat)
  | 0, _ => none
  | n + 1, v =>
    match v with
    | .val p => some (p, [])
    | .nil _ => some (.fs [], [])
    | .vc es => some (.fs es, [])
    | .ow id => match look id with
      | some (.row es _) => some (.fs es, [id])
      | some (.fro (.fs es)) => some (.fs es, [])
      | _ => none
    | .sl id off len _ => match look id with
      | some (.row es _) => some (.fs ((es.drop off).take len), [id])
      | some (.fro (.fs es)) => some (.fs ((es.drop off).take len), [])
      | _ => none
    | .ref id off => match look id with
      | some (.pbox p _) => some (.rp p.cells off, [id])
      | some (.fro (.agg cs)) => some (.rp cs off, [])
      | some (.box cs) => match reifyL look n cs with
        | some (ps, ids) => some (.rp ps off, id :: ids)
        | none => none
      | _ => none
    | .agg cs => match reifyL look n cs with
      | some (ps, ids) => some (.agg ps, ids)
      | none => none
    | .tuple cs => match reifyL look n cs with
      | some (ps, ids) => some (.tuple ps, ids)
      | none => none
    | .fn f caps => match reifyL look n caps with
      | some (ps, ids) => some (.fn f ps, ids)
      | none => none
    | _ => none
def reifyL (look : Nat → Option Ob) : Nat → List TV → Option (List PV × List Nat)
  | _, [] => some ([], [])
  | 0, _ :: _ => none
  | n + 1, v :: vs => match reify look n v, reifyL look n vs with
    | some (p, i), some (ps, is) => some (p :: ps, i ++ is)
    | _, _ => none
end


/-- Memory that was given away to be read for ever. -/
def froOb (look : Nat → Option Ob) (ids : List Nat) (id : Nat) : Ob :=
  match look id with
  | some (.row es _) => .fro (.fs es)
  | some (.pbox p _) => .fro (.agg p.cells)
  | some (.box cs) => match reifyL look 99 cs with | some (ps, is) => if is.all (fun i => ids.contains i) = true then .fro (.agg ps) else .dead | none => .dead
  | _ => .dead
def froAll (look : Nat → Option Ob) (ids : List Nat) : List (Nat × Ob) := ids.map fun i => (i, froOb look ids i)

/-- What leads to memory that was given away is a tree. -/
def nrm (look : Nat → Option Ob) (v : TV) : TV :=
  match v with
  | .ow id => match look id with | some (.fro (.fs es)) => .val (.fs es) | _ => v
  | .sl id off len _ => match look id with | some (.fro (.fs es)) => .val (.fs ((es.drop off).take len)) | _ => v
  | .ref id off => match look id with | some (.fro (.agg cs)) => .val (.rp cs off) | _ => v
  | .eref id i j => match look id with | some (.fro (.fs es)) => (match es[i]? with | some e => .val (.rp e j) | none => v) | _ => v
  | v => v

/-- What is told behind an operation: its value, what has changed, what is new, what was looked at. -/
abbrev K (R : Type) := TV → List (Nat × Ob) → List Ob → List Nat → Option R

def intK {R : Type} (op : BinOp) (ik : IntKind) (a b : Int) (k : PV → Option R) : Option R :=
  match op with
  | .add => k (.int ik (ik.wrap (a + b)))
  | .sub => k (.int ik (ik.wrap (a - b)))
  | .mul => k (.int ik (ik.wrap (a * b)))
  | .quo => if b = 0 then none else k (.int ik (ik.wrap (a.tdiv b)))
  | .rem => if b = 0 then none else k (.int ik (a.tmod b))
  | .and => k (.int ik (ik.wrap ((BitVec.ofInt ik.bits a &&& BitVec.ofInt ik.bits b).toNat : Nat)))
  | .or => k (.int ik (ik.wrap ((BitVec.ofInt ik.bits a ||| BitVec.ofInt ik.bits b).toNat : Nat)))
  | .xor => k (.int ik (ik.wrap ((BitVec.ofInt ik.bits a ^^^ BitVec.ofInt ik.bits b).toNat : Nat)))
  | .andNot => k (.int ik (ik.wrap ((BitVec.ofInt ik.bits a &&& ~~~(BitVec.ofInt ik.bits b)).toNat : Nat)))
  | .eql => k (.bool (a == b))
  | .neq => k (.bool (a != b))
  | .lss => k (.bool (decide (a < b)))
  | .leq => k (.bool (decide (a ≤ b)))
  | .gtr => k (.bool (decide (a > b)))
  | .geq => k (.bool (decide (a ≥ b)))
  | _ => none

def shiftK {R : Type} (op : BinOp) (ik : IntKind) (a b : Int) (k : PV → Option R) : Option R :=
  if b < 0 then none else
  match op with
  | .shl => k (.int ik (ik.wrap (a * 2 ^ (min b.toNat ik.bits))))
  | .shr => k (.int ik (a.fdiv (2 ^ (min b.toNat ik.bits))))
  | _ => none

def strK {R : Type} (op : BinOp) (a b : ByteArray) (k : PV → Option R) : Option R :=
  match op with
  | .add => if a.size + b.size ≤ 140737488355328 then k (.str (a ++ b)) else none
  | .eql => k (.bool (a.toList == b.toList))
  | .neq => k (.bool (!(a.toList == b.toList)))
  | .lss => k (.bool (Op.bytesLess a.toList b.toList))
  | _ => none

/-- Are two plain values of a type alike? (none: they are not of it) -/
def eqvT (T : TypeId → Option TI) (t : TypeId) (p q : PV) : Option Bool :=
  match T t with
  | some ⟨_, _, .int ik, _⟩ => (p.asI ik).bind fun a => (q.asI ik).bind fun b => some (a == b)
  | some ⟨_, _, .bool, _⟩ => p.asB.bind fun a => q.asB.bind fun b => some (a == b)
  | some ⟨_, _, .string, _⟩ => p.asS.bind fun a => q.asS.bind fun b => some (a.toList == b.toList)
  | _ => none
def eqvs (T : TypeId → Option TI) : List (TypeId × Nat) → List PV → List PV → Option Bool
  | [], [], [] => some true
  | f :: fs, p :: ps, q :: qs => (eqvT T f.1 p q).bind fun a => (eqvs T fs ps qs).bind fun b => some (a && b)
  | _, _, _ => none

def plainT (T : TypeId → Option TI) (t : TypeId) : Bool :=
  match T t with
  | some ⟨_, _, .bool, _⟩ => true
  | some ⟨_, _, .int _, _⟩ => true
  | some ⟨_, _, .string, _⟩ => true
  | _ => false

def binK {R : Type} (T : TypeId → Option TI) (op : BinOp) (xt yt : TypeId) (x y : TV) (k : PV → Option R) : Option R :=
  match T xt with
  | some ⟨_, _, .int ik, _⟩ =>
    match x, y with
    | .val p, .val q =>
      match op with
      | .shl | .shr =>
        match T yt with
        | some ⟨_, _, .int yk, _⟩ => (p.asI ik).bind fun a => (q.asI yk).bind fun b => shiftK op ik a b k
        | _ => none
      | _ => (p.asI ik).bind fun a => (q.asI ik).bind fun b => intK op ik a b k
    | _, _ => none
  | some ⟨_, _, .string, _⟩ =>
    match x, y with
    | .val p, .val q => p.asS.bind fun a => q.asS.bind fun b => strK op a b k
    | _, _ => none
  | some ⟨_, _, .bool, _⟩ =>
    match x, y with
    | .val p, .val q =>
      match op with
      | .eql => p.asB.bind fun a => q.asB.bind fun b => k (.bool (a == b))
      | .neq => p.asB.bind fun a => q.asB.bind fun b => k (.bool (a != b))
      | _ => none
    | _, _ => none
  | some ⟨_, _, .struct fs, _⟩ =>
    if fs.all (fun f => plainT T f.1) && fs.map (·.2) == List.range fs.length then
      match x, y with
      | .val p, .val q =>
        match op with
        | .eql => p.asAgg.bind fun ps => q.asAgg.bind fun qs => (eqvs T fs ps qs).bind fun b => k (.bool b)
        | .neq => p.asAgg.bind fun ps => q.asAgg.bind fun qs => (eqvs T fs ps qs).bind fun b => k (.bool (!b))
        | _ => none
      | _, _ => none
    else none
  | some ⟨_, _, .ptr _, _⟩ =>
    match x, y with
    | .ref _ _, .val .pnil => match op with | .eql => k (.bool false) | .neq => k (.bool true) | _ => none
    | .val .pnil, .val .pnil => match op with | .eql => k (.bool true) | .neq => k (.bool false) | _ => none
    | .val (.rp _ _), .val .pnil => match op with | .eql => k (.bool false) | .neq => k (.bool true) | _ => none
    | _, _ => none
  | some ⟨_, _, .func, _⟩ =>
    match x, y with
    | .fn _ _, .val .fnil => match op with | .eql => k (.bool false) | .neq => k (.bool true) | _ => none
    | .val (.fn _ _), .val .fnil => match op with | .eql => k (.bool false) | .neq => k (.bool true) | _ => none
    | .val .fnil, .val .fnil => match op with | .eql => k (.bool true) | .neq => k (.bool false) | _ => none
    | _, _ => none
  | _ => none

/-- A value as the cells of a variable. -/
def tcells (n : Nat) : TV → Option (List TV)
  | .agg cs => if cs.length = n then some cs else none
  | .val p => if p.isAgg n then some (p.cells.map .val) else none
  | _ => none

/-- Cells as a value: a tree, if each of them is one. -/
def packTV (cs : List TV) : TV :=
  match allSome (cs.map fun c => match c with | .val p => some p | _ => none) with
  | some ps => .val (.agg ps)
  | none => .agg cs

/-- A value that holds none of the call's own memory as a tree. -/
def toPV : TV → Option PV
  | .val p => some p
  | .nil _ => some (.fs [])
  | .agg cs => match allSome (cs.map fun c => match c with | .val p => some p | .nil _ => some (.fs []) | _ => none) with
    | some ps => some (.agg ps)
    | none => none
  | _ => none

def bytesOf (s : ByteArray) : List (List PV) := s.data.toList.map fun b => [.int .u8 b.toNat]
/-- The string of a row of bytes. -/
def strOf : List (List PV) → Option (List UInt8)
  | [] => some []
  | [.int .u8 n] :: es => (strOf es).bind fun l => some (UInt8.ofNat n.toNat :: l)
  | _ => none

def maxBytes : Nat := 140737488355328

def loadK {R : Type} (T : TypeId → Option TI) (look : Nat → Option Ob) (t : TypeId) (x : TV) (k : K R) : Option R :=
  match x with
  | .ref id off =>
    match look id with
    | some (.box cs) =>
      if isAggT T t then
        if off + tsize T t ≤ cs.length then k (packTV ((cs.drop off).take (tsize T t))) [] [] [id] else none
      else match cs[off]? with
        | some c => k c [] [] [id]
        | none => none
    | some (.pbox p n) =>
      if isAggT T t then
        if off = 0 ∧ tsize T t = n then k (.val p) [] [] [id]
        else if off + tsize T t ≤ n then k (.val (p.sub off (tsize T t))) [] [] [id] else none
      else (p.cell off).bind fun c => coeK T t c fun c => k (.val c) [] [] [id]
    | _ => none
  | .eref id i j =>
    match look id with
    | some (.row es _) =>
      if isAggT T t then (es[i]?).bind fun e => (subAgg e j (tsize T t)).bind fun p => k (.val p) [] [] [id]
      else (es[i]?).bind fun e => (e[j]?).bind fun c => coeK T t c fun c => k (.val c) [] [] [id]
    | _ => none
  | .val (.rp cs off) =>
    if isAggT T t then (subAgg cs off (tsize T t)).bind fun p => k (.val p) [] [] []
    else (cs[off]?).bind fun c => coeK T t c fun c => k (.val c) [] [] []
  | _ => none

/-- A tree that is put over all of a variable. -/
def whole (n off m : Nat) (y : TV) : Option PV := match y with | .val p => if off = 0 ∧ n = m then some p else none | _ => none

def storeK {R : Type} (T : TypeId → Option TI) (look : Nat → Option Ob) (t : TypeId) (x y : TV) (k : K R) : Option R :=
  match x with
  | .ref id off =>
    match look id with
    | some (.box cs) =>
      if isAggT T t then
        if off + tsize T t ≤ cs.length then
          match whole (tsize T t) off cs.length y with
          | some q => if q.isAgg (tsize T t) then k .undef [(id, .pbox q (tsize T t))] [] [id] else none
          | none =>
            match tcells (tsize T t) y with
            | some ds => k .undef [(id, .box (cs.take off ++ ds ++ cs.drop (off + tsize T t)))] [] [id]
            | none => none
        else none
      else if off < cs.length ∧ y.one = true then k .undef [(id, .box (cs.set off y))] [] [id] else none
    | some (.pbox p n) =>
      if isAggT T t then
        match y with
        | .val q =>
          if off = 0 ∧ tsize T t = n then
            if q.isAgg n then k .undef [(id, .pbox q n)] [] [id] else none
          else if off + tsize T t ≤ n then
            if q.isAgg (tsize T t) then k .undef [(id, .pbox (.agg (p.cells.take off ++ q.cells ++ p.cells.drop (off + tsize T t))) n)] [] [id] else none
          else none
        | .agg ds =>
          if off = 0 ∧ tsize T t = n ∧ ds.length = n then k .undef [(id, .box ds)] [] [id] else none
        | _ => none
      else if off < n ∧ y.one = true then
        match y with
        | .val c => k .undef [(id, .pbox (p.setc off c) n)] [] [id]
        | _ => if p.isAgg n then k .undef [(id, .box ((p.cells.map .val).set off y))] [] [id] else none
      else none
    | _ => none
  | .eref id i j =>
    match look id with
    | some (.row es sz) =>
      match toPV y with
      | some q =>
        if isAggT T t then
          if j = 0 ∧ tsize T t = sz then
            if q.isAgg sz then (es[i]?).bind fun _ => k .undef [(id, .row (es.set i q.cells) sz)] [] [id] else none
          else none
        else if q.one then (es[i]?).bind fun e => (e[j]?).bind fun _ => k .undef [(id, .row (es.set i (e.set j q)) sz)] [] [id] else none
      | none => none
    | _ => none
  | _ => none

def indexAddrK {R : Type} (T : TypeId → Option TI) (look : Nat → Option Ob) (t : TypeId) (x i : TV) (k : K R) : Option R :=
  match T t, i with
  | some ⟨_, _, .slice e, _⟩, .val i =>
    match T e with
    | none => none
    | some ei =>
      match x with
      | .ow id => (i.asI .i64).bind fun i =>
        match look id with
        | some (.row es sz) => if sz = ei.size then if 0 ≤ i ∧ i < es.length then k (.eref id i.toNat 0) [] [] [id] else none else none
        | _ => none
      | .sl id off len _ => (i.asI .i64).bind fun i =>
        match look id with
        | some (.row _ sz) => if sz = ei.size then if 0 ≤ i ∧ i < len then k (.eref id (off + i.toNat) 0) [] [] [id] else none else none
        | _ => none
      | .val p => (i.asI .i64).bind fun i => p.asFs.bind fun es => (idx es i).bind fun e => if e.length = ei.size then k (.val (.rp e 0)) [] [] [] else none
      | _ => none
  | some ⟨_, _, .array n e, _⟩, .val i =>
    match T e with
    | none => none
    | some ei =>
      match x with
      | .ref id off => (i.asI .i64).bind fun i => if 0 ≤ i ∧ i < n then k (.ref id (off + i.toNat * ei.size)) [] [] [] else none
      | .eref id m off => (i.asI .i64).bind fun i => if 0 ≤ i ∧ i < n then k (.eref id m (off + i.toNat * ei.size)) [] [] [] else none
      | .val (.rp cs off) => (i.asI .i64).bind fun i => if 0 ≤ i ∧ i < n then k (.val (.rp cs (off + i.toNat * ei.size))) [] [] [] else none
      | _ => none
  | _, _ => none

def indexK {R : Type} (T : TypeId → Option TI) (t : TypeId) (x i : TV) (k : K R) : Option R :=
  match T t, x, i with
  | some ⟨_, _, .array n e, _⟩, .val p, .val i =>
    match T e with
    | none => none
    | some ei =>
      if ei.desc.isAgg then none else
      p.asAgg.bind fun cs => (i.asI .i64).bind fun i => if 0 ≤ i ∧ i < n then (cs[i.toNat]?).bind fun c => coeK T e c fun c => k (.val c) [] [] [] else none
  | some ⟨_, _, .string, _⟩, .val p, .val i =>
    (i.asI .i64).bind fun i => p.asS.bind fun s => (idx s.data.toList i).bind fun b => k (.val (.int .u8 b.toNat)) [] [] []
  | _, _, _ => none

def allLen (n : Nat) (es : List (List PV)) : Bool := es.all fun e => e.length == n

/-- A bound of a slice expression (none: left out). -/
def boundK {R : Type} (o : Option TV) (d : Int) (k : Int → Option R) : Option R :=
  match o with
  | none => k d
  | some (.val p) => (p.asI .i64).bind k
  | some _ => none

def sliceK {R : Type} (T : TypeId → Option TI) (look : Nat → Option Ob) (t : TypeId) (x : TV) (lo hi mx : Option TV) (k : K R) : Option R :=
  if hi.isNone && mx.isSome then none else
  match T t with
  | some ⟨_, _, .string, _⟩ =>
    match x, mx with
    | .val p, none => p.asS.bind fun s => boundK lo 0 fun l => boundK hi s.size fun h =>
      if 0 ≤ l ∧ l ≤ h ∧ h ≤ s.size then k (.val (.str (s.extract l.toNat h.toNat))) [] [] [] else none
    | _, _ => none
  | some ⟨_, _, .slice e, _⟩ =>
    match T e with
    | none => none
    | some ei =>
      match x with
      | .val p => p.asFs.bind fun es => boundK lo 0 fun l => boundK hi es.length fun h => boundK mx h fun m =>
        if 0 ≤ l ∧ l ≤ h ∧ m = h ∧ h ≤ es.length ∧ allLen ei.size es = true then
          k (cond mx.isSome (.vc ((es.take h.toNat).drop l.toNat)) (.val (.fs ((es.take h.toNat).drop l.toNat)))) [] [] []
        else none
      | .ow id =>
        match look id with
        | some (.row es sz) => boundK lo 0 fun l => boundK hi es.length fun h => boundK mx h fun m =>
          if 0 ≤ l ∧ l ≤ h ∧ m = h ∧ h ≤ es.length ∧ sz = ei.size then k (.sl id l.toNat (h - l).toNat mx.isSome) [] [] [id] else none
        | _ => none
      | .sl id off len _ =>
        match look id with
        | some (.row _ sz) => boundK lo 0 fun l => boundK hi len fun h => boundK mx h fun m =>
          if 0 ≤ l ∧ l ≤ h ∧ m = h ∧ h ≤ len ∧ sz = ei.size then k (.sl id (off + l.toNat) (h - l).toNat mx.isSome) [] [] [id] else none
        | _ => none
      | .nil sz => boundK lo 0 fun l => boundK hi 0 fun h => boundK mx 0 fun m =>
        if l = 0 ∧ h = 0 ∧ m = 0 then k (.nil sz) [] [] [] else none
      | _ => none
  | _ => none

/-- The elements that a slice value has, for one who reads them now: of so many cells each. -/
def elemsK {R : Type} (look : Nat → Option Ob) (n : Nat) (x : TV) (k : List (List PV) → List Nat → Option R) : Option R :=
  match x with
  | .nil _ => k [] []
  | .vc es => if allLen n es = true then k es [] else none
  | .val p => p.asFs.bind fun es => if allLen n es = true then k es [] else none
  | .ow id =>
    match look id with
    | some (.row es sz) => if sz = n then k es [id] else none
    | _ => none
  | .sl id off len _ =>
    match look id with
    | some (.row es sz) => if sz = n then k ((es.drop off).take len) [id] else none
    | _ => none
  | _ => none

/-- A slice with elements behind it. -/
def growK {R : Type} (look : Nat → Option Ob) (nx : Nat) (i : TI) (x : TV) (ms : List (List PV)) (rd : List Nat) (k : K R) : Option R :=
  match x with
  | .nil _ => if ms.length * i.bytes ≤ maxBytes then k (.ow nx) [] [.row ms i.size] rd else none
  | .vc es =>
    if (es.length + ms.length) * i.bytes ≤ maxBytes ∧ allLen i.size es = true then
      cond ms.isEmpty (k (.vc es) [] [] rd) (k (.ow nx) [] [.row (es ++ ms) i.size] rd)
    else none
  | .ow id =>
    match look id with
    | some (.row es sz) =>
      if sz = i.size then
        if (es.length + ms.length) * i.bytes ≤ maxBytes then k (.ow nx) [(id, .dead)] [.row (es ++ ms) i.size] (id :: rd) else none
      else none
    | _ => none
  | .sl id off len cp =>
    match look id with
    | some (.row es sz) =>
      if sz = i.size then
        if (len + ms.length) * i.bytes ≤ maxBytes then
          match cp with
          | true => cond ms.isEmpty (k (.sl id off len true) [] [] (id :: rd)) (k (.ow nx) [] [.row ((es.drop off).take len ++ ms) i.size] (id :: rd))
          | false => k (.ow nx) [(id, .dead)] [.row ((es.drop off).take len ++ ms) i.size] (id :: rd)
        else none
      else none
    | _ => none
  | _ => none

def appendK {R : Type} (T : TypeId → Option TI) (look : Nat → Option Ob) (nx : Nat) (t u : TypeId) (x y : TV) (k : K R) : Option R :=
  match T t with
  | some ⟨_, _, .slice e, _⟩ =>
    match T e with
    | none => none
    | some i =>
      match T u with
      | some ⟨_, _, .string, _⟩ =>
        match y with
        | .val p => p.asS.bind fun s => if i.size = 1 then growK look nx i x (bytesOf s) [] k else none
        | _ => none
      | some ⟨_, _, .slice _, _⟩ => elemsK look i.size y fun ms rd => growK look nx i x ms rd k
      | _ => none
  | _ => none

def lenK {R : Type} (T : TypeId → Option TI) (look : Nat → Option Ob) (t : TypeId) (x : TV) (k : K R) : Option R :=
  match T t with
  | some ⟨_, _, .string, _⟩ => match x with | .val p => p.asS.bind fun s => k (.val (.int .i64 s.size)) [] [] [] | _ => none
  | some ⟨_, _, .array n _, _⟩ => k (.val (.int .i64 n)) [] [] []
  | some ⟨_, _, .slice _, _⟩ =>
    match x with
    | .val p => p.asFs.bind fun es => k (.val (.int .i64 es.length)) [] [] []
    | .ow id => match look id with | some (.row es _) => k (.val (.int .i64 es.length)) [] [] [id] | _ => none
    | .sl _ _ len _ => k (.val (.int .i64 len)) [] [] []
    | .nil _ => k (.val (.int .i64 0)) [] [] []
    | _ => none
  | some ⟨_, _, .map _ _, _⟩ =>
    match x with
    | .mp id => match look id with | some (.map kvs) => k (.val (.int .i64 kvs.length)) [] [] [id] | _ => none
    | .val .mnil => k (.val (.int .i64 0)) [] [] []
    | _ => none
  | _ => none

/-- A key's value in a map. -/
def mget (T : TypeId → Option TI) (t : TypeId) (key : PV) : List (PV × PV) → Option (Option PV)
  | [] => some none
  | kv :: l => (eqvT T t key kv.1).bind fun b => if b then some (some kv.2) else mget T t key l
def mset (T : TypeId → Option TI) (t : TypeId) (key v : PV) : List (PV × PV) → Option (List (PV × PV))
  | [] => some [(key, v)]
  | kv :: l => (eqvT T t key kv.1).bind fun b => if b then some ((key, v) :: l) else (mset T t key v l).bind fun r => some (kv :: r)

def lookupK {R : Type} (T : TypeId → Option TI) (look : Nat → Option Ob) (t : TypeId) (m i : TV) (ok : Bool) (k : K R) : Option R :=
  match T t with
  | some ⟨_, _, .map kt et, _⟩ =>
    if plainT T kt && plainT T et then
      match m, i, (match T et with | some ⟨_, _, _, [.val z]⟩ => some z | _ => none) with
      | .mp id, .val key, some z =>
        match look id with
        | some (.map kvs) => (mget T kt key kvs).bind fun r =>
          match ok with
          | true => k (.tuple [.val (r.getD z), .val (.bool r.isSome)]) [] [] [id]
          | false => k (.val (r.getD z)) [] [] [id]
        | _ => none
      | _, _, _ => none
    else none
  | _ => none

def mapUpdateK {R : Type} (T : TypeId → Option TI) (look : Nat → Option Ob) (t : TypeId) (m i x : TV) (k : K R) : Option R :=
  match T t with
  | some ⟨_, _, .map kt et, _⟩ =>
    if plainT T kt && plainT T et then
      match m, i, x with
      | .mp id, .val key, .val v =>
        match look id with
        | some (.map kvs) => (mset T kt key v kvs).bind fun r => k .undef [(id, .map r)] [] [id]
        | _ => none
      | _, _, _ => none
    else none
  | _ => none

def convertK {R : Type} (T : TypeId → Option TI) (look : Nat → Option Ob) (nx : Nat) (src dst : TypeId) (x : TV) (k : K R) : Option R :=
  match T src, T dst with
  | some ⟨_, _, .int sk, _⟩, some ⟨_, _, .int dk, _⟩ =>
    match x with | .val p => (p.asI sk).bind fun n => k (.val (.int dk (dk.wrap n))) [] [] [] | _ => none
  | some ⟨_, _, .string, _⟩, some ⟨_, _, .string, _⟩ =>
    match x with | .val p => p.asS.bind fun s => k (.val (.str s)) [] [] [] | _ => none
  | some ⟨_, _, .string, _⟩, some ⟨_, _, .slice e, _⟩ =>
    match T e with
    | some ⟨1, 1, .int .u8, _⟩ =>
      match x with
      | .val p => p.asS.bind fun s => if s.size ≤ maxBytes then k (.ow nx) [] [.row (bytesOf s) 1] [] else none
      | _ => none
    | _ => none
  | some ⟨_, _, .slice e, _⟩, some ⟨_, _, .string, _⟩ =>
    match T e with
    | some ⟨1, 1, .int .u8, _⟩ => elemsK look 1 x fun es rd => (strOf es).bind fun l => k (.val (.str ⟨l.toArray⟩)) [] [] rd
    | _ => none
  | some ⟨_, _, .slice e, _⟩, some ⟨_, _, .slice _, _⟩ =>
    match T e with
    | some ⟨1, 1, .int .u8, _⟩ =>
      if src = dst then
        match x with
        | .ow id => match look id with | some (.row es sz) => cond es.isEmpty none (k (.ow id) [(id, .row es sz)] [] [id]) | _ => none
        | _ => none
      else none
    | _ => none
  | _, _ => none


def fieldAddrK {R : Type} (T : TypeId → Option TI) (t : TypeId) (x : TV) (f : Nat) (k : K R) : Option R :=
  match T t with
  | some ⟨_, _, .struct fs, _⟩ =>
    match fs[f]? with
    | some (ft, fo) =>
      if tsize T ft = 0 then none else
      match x with
      | .ref id off => k (.ref id (off + fo)) [] [] []
      | .eref id i j => k (.eref id i (j + fo)) [] [] []
      | .val (.rp cs off) => k (.val (.rp cs (off + fo))) [] [] []
      | _ => none
    | none => none
  | _ => none

def fieldK {R : Type} (T : TypeId → Option TI) (t : TypeId) (x : TV) (f : Nat) (k : K R) : Option R :=
  match T t with
  | some ⟨_, _, .struct fs, _⟩ =>
    match fs[f]? with
    | some (ft, fo) =>
      match x with
      | .val p => p.asAgg.bind fun cs =>
        match T ft with
        | none => none
        | some i =>
          if i.desc.isAgg then (subAgg cs fo i.size).bind fun q => k (.val q) [] [] []
          else (cs[fo]?).bind fun c => coeK T ft c fun c => k (.val c) [] [] []
      | .agg cs =>
        match T ft with
        | none => none
        | some i => if i.desc.isAgg then none else match cs[fo]? with | some c => k c [] [] [] | none => none
      | _ => none
    | none => none
  | _ => none

/-- Cells with those of a part in their place. -/
def putParts (T : TypeId → Option TI) (fs : List (TypeId × Nat)) : List TV → List (Nat × Option TV) → Option (List TV)
  | cs, [] => some cs
  | cs, (i, v) :: r =>
    match fs[i]?, v with
    | some (ft, fo), some v =>
      match (if isAggT T ft then tcells (tsize T ft) v else if v.one then some [fixNil T ft v] else none) with
      | some ds => if fo + ds.length ≤ cs.length then putParts T fs (cs.take fo ++ ds ++ cs.drop (fo + ds.length)) r else none
      | none => none
    | _, _ => none

def buildK {R : Type} (T : TypeId → Option TI) (t : TypeId) (parts : List (Nat × Option TV)) (k : K R) : Option R :=
  match T t with
  | some ⟨_, _, .struct fs, z⟩ =>
    if fs.all (fun f => (T f.1).isSome) = true then
      match putParts T fs z parts with | some cs => k (packTV cs) [] [] [] | none => none
    else none
  | some ⟨_, _, .array n e, z⟩ =>
    match T e with
    | some _ => match putParts T ((List.range n).map fun i => (e, i * tsize T e)) z parts with | some cs => k (packTV cs) [] [] [] | none => none
    | none => none
  | _ => none

/-- The rows of a slice literal: each element there is, in order. -/
def litRows (T : TypeId → Option TI) (e : TypeId) : Nat → List (Nat × Option TV) → Option (List (List PV))
  | _, [] => some []
  | j, (i, v) :: r =>
    if i = j then
      match v with
      | some v =>
        match toPV v, litRows T e (j + 1) r with
        | some p, some es => if isAggT T e then (if p.isAgg (tsize T e) then some (p.cells :: es) else none) else if p.one then some ([p] :: es) else none
        | _, _ => none
      | none => none
    else none

def buildSliceK {R : Type} (T : TypeId → Option TI) (nx : Nat) (t : TypeId) (n : Nat) (parts : List (Nat × Option TV)) (k : K R) : Option R :=
  match T t with
  | some ⟨_, _, .slice e, _⟩ =>
    match T e with
    | some i =>
      if parts.length = n ∧ n * i.size ≤ 16777216 then
        match litRows T e 0 parts with
        | some es => k (.ow nx) [] [.row es i.size] []
        | none => none
      else none
    | none => none
  | _ => none

def makeSliceK {R : Type} (T : TypeId → Option TI) (nx : Nat) (t : TypeId) (l c : TV) (k : K R) : Option R :=
  match T t with
  | some ⟨_, _, .slice e, _⟩ =>
    match l, c, T e with
    | .val p, .val q, some i =>
      match toPV (packTV i.zero) with
      | some z => (p.asI .i64).bind fun a => (q.asI .i64).bind fun b =>
        if a = b ∧ 0 ≤ a ∧ a * i.bytes ≤ maxBytes ∧ i.size = z.cells.length then k (.ow nx) [] [.row (List.replicate a.toNat z.cells) i.size] [] else none
      | none => none
    | _, _, _ => none
  | _ => none

mutual
/-- A tree as memory of the call's own, where its shape says so. -/
def impK {R : Type} : Shp → PV → Nat → (TV → List Ob → Option R) → Option R
  | .d, p, _, k => k (.val p) []
  | .s, p, nx, k => p.asOs.bind fun x => k (.ow nx) [.row x.1 x.2]
  | .o shs, p, nx, k => p.asObj.bind fun cs => impLK shs cs nx fun tvs obs => k (.ref (nx + obs.length) 0) (obs ++ [.box tvs])
  | .a shs, p, nx, k => p.asAgg.bind fun cs => impLK shs cs nx fun tvs obs => k (.agg tvs) obs
  | .t shs, p, nx, k => p.asTup.bind fun cs => impLK shs cs nx fun tvs obs => k (.tuple tvs) obs
def impLK {R : Type} : List Shp → List PV → Nat → (List TV → List Ob → Option R) → Option R
  | [], cs, _, k => if cs.isEmpty then k [] [] else none
  | sh :: shs, cs, nx, k => cs.head?.bind fun c => impK sh c nx fun tv obs => impLK shs cs.tail (nx + obs.length) fun tvs obs' => k (tv :: tvs) (obs ++ obs')
end

def Shp.isD : Shp → Bool | .d => true | _ => false

/-- A tree that is handed over: it; what of the call's own is lent with it; what is given. -/
abbrev Exp := PV × List Nat × List Nat

mutual
/-- Memory of the call's own as a tree, to be handed over as its shape says. -/
def expS (look : Nat → Option Ob) : Shp → TV → Option Exp
  | .d, v => match reify look 100 v with | some (p, ids) => some (p, ids, []) | none => none
  | .s, v =>
    match v with
    | .nil sz => some (.os [] sz, [], [])
    | .ow id => match look id with | some (.row es sz) => some (.os es sz, [], [id]) | _ => none
    | .sl id off len false => match look id with | some (.row es sz) => some (.os ((es.drop off).take len) sz, [], [id]) | _ => none
    | _ => none
  | .o shs, v =>
    match v with
    | .ref id 0 =>
      match look id with
      | some (.pbox p n) => if shs.all Shp.isD && shs.length == n then some (.obj p.cells, [], [id]) else none
      | some (.box cs) => match expL look shs cs with | some (ps, l, o) => some (.obj ps, l, id :: o) | none => none
      | _ => none
    | _ => none
  | .a shs, v =>
    match v with
    | .agg cs => match expL look shs cs with | some (ps, l, o) => some (.agg ps, l, o) | none => none
    | .val p => if shs.all Shp.isD && p.isAgg shs.length then some (p, [], []) else none
    | _ => none
  | .t shs, v =>
    match v with
    | .tuple cs => match expL look shs cs with | some (ps, l, o) => some (.tuple ps, l, o) | none => none
    | _ => none
def expL (look : Nat → Option Ob) : List Shp → List TV → Option (List PV × List Nat × List Nat)
  | [], [] => some ([], [], [])
  | sh :: shs, v :: vs => match expS look sh v, expL look shs vs with
    | some (p, l, o), some (ps, ls, os) => some (p :: ps, l ++ ls, o ++ os)
    | _, _ => none
  | _, _ => none
end

end Go.Proofs.YtgpjnppakffoiaaV
