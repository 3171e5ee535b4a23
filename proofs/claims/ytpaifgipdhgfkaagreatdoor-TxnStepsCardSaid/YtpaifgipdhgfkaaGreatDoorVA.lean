/- The reading machine: values, operations, code: definitions; how trees stand for values; memory. -/
import Derived.WalkKit
import Derived.Orders
set_option linter.unusedVariables false
set_option linter.unusedSimpArgs false

/- The reading machine: values without memory, frames, operations: definitions alone. -/
namespace Go.Proofs.YtpaifgipdhgfkaaGreatDoorV
open Go

/-- A value as a tree: what a slice, a pointer leads to stands in it. -/
inductive PV where
  | bool (b : Bool)
  | int (k : IntKind) (n : Int)
  | str (s : ByteArray)
  | fs (es : List (List PV))
  | os (es : List (List PV)) (sz : Nat)
  | agg (cs : List PV)
  | tuple (cs : List PV)
  | pnil
  | rp (cs : List PV) (off : Nat)
  | obj (cs : List PV)
  | fn (f : Fn) (caps : List PV)
  | fnil
  | mnil
  | fm (kvs : List (PV × PV))
  | nilif
  | err
  | wint (k : IntKind)
  | undef
  deriving Inhabited

/-- What a slot of a frame, or a cell of a local variable, holds. -/
inductive TV where
  | val (p : PV)
  | nil (sz : Nat)
  | ref (id off : Nat)
  | eref (id i j : Nat)
  | ow (id : Nat)
  | sl (id off len : Nat) (capped : Bool)
  | vc (es : List (List PV))
  | mp (id : Nat)
  | it (id : Nat)
  | agg (cs : List TV)
  | tuple (cs : List TV)
  | fn (f : Fn) (caps : List TV)
  | undef
  deriving Inhabited

/-- Memory of the call's own. -/
inductive Ob where
  | box (cs : List TV)
  | pbox (p : PV) (n : Nat)
  | row (es : List (List PV)) (sz : Nat)
  | map (kvs : List (PV × PV))
  | sit (s : ByteArray) (pos : Nat)
  | mit (left : List (PV × PV)) (cur : List PV)
  | fro (p : PV)
  | dead
  deriving Inhabited

def Ob.live : Ob → Bool | .dead => false | .fro _ => false | _ => true

/-- A frame: its slots, the memory of the call's own, what the caller has lent. -/
structure St where
  tm : List TV
  ob : List Ob
  roots : List TV
  deriving Inhabited

/-- Types, as far as they are asked. -/
inductive TD where
  | bool | int (k : IntKind) | string
  | slice (e : TypeId) | array (n : Nat) (e : TypeId) | struct (fs : List (TypeId × Nat))
  | map (k e : TypeId) | ptr (e : TypeId) | func | iface | other
  deriving DecidableEq

def TD.isAgg : TD → Bool | .struct _ => true | .array _ _ => true | _ => false

structure TI where
  size : Nat
  bytes : Nat
  desc : TD
  zero : List TV

/-- What of an answer is memory that nobody else has: nothing (d), a slice, what a pointer leads to, parts. -/
inductive Shp where
  | d | s | o (cs : List Shp) | a (cs : List Shp) | t (cs : List Shp)
  deriving Inhabited

/-- A function by what it answers: of its arguments as trees (D says what, if anything, E how that stands in trees); behind it the arguments that it was given, and gives back (those with a shape, and 'true'). 'scal': its answer leads to no memory that it was lent. -/
structure Ctr where
  modes : List (Option (Shp × Bool))
  α : Type
  D : List PV → Option α
  E : α → PV × List PV
  scal : Bool
  res : Shp
/-- What a call comes to: by a contract; or by what the callee's own code does with the caller's frame. -/
inductive Cal where
  | ctr (c : Ctr)
  | inl (f : (R : Type) → St → List TV → (TV → St → Option R) → Option R)
def Ctr.F (c : Ctr) (ps : List PV) : Option (PV × List PV) := (c.D ps).bind fun y => some (c.E y)

def PV.asB : PV → Option Bool | .bool b => some b | _ => none
def PV.asI (k : IntKind) : PV → Option Int | .int k' n => if k' = k then some n else none | _ => none
/-- A number of whatever kind. -/
def PV.asN : PV → Option Int | .int _ n => some n | _ => none
def PV.asS : PV → Option ByteArray | .str s => some s | _ => none
def PV.asFs : PV → Option (List (List PV)) | .fs es => some es | _ => none
def PV.asOs : PV → Option (List (List PV) × Nat) | .os es sz => some (es, sz) | _ => none
def PV.asObj : PV → Option (List PV) | .obj cs => some cs | _ => none
def PV.asAgg : PV → Option (List PV) | .agg cs => some cs | _ => none
def PV.asTup : PV → Option (List PV) | .tuple cs => some cs | _ => none
/-- What a map has (nil: nothing). -/
def PV.asMp : PV → Option (List (PV × PV)) | .fm kvs => some kvs | .mnil => some [] | _ => none
/-- Is a pointer nil? -/
def PV.asPn : PV → Option Bool | .pnil => some true | .rp _ _ => some false | _ => none
/-- Is a map nil? -/
def PV.asMn : PV → Option Bool | .fm _ => some false | .mnil => some true | _ => none
def PV.cells : PV → List PV | .agg cs => cs | p => [p]
def PV.cell (p : PV) (j : Nat) : Option PV := p.cells[j]?
def PV.sub (p : PV) (off n : Nat) : PV := .agg ((p.cells.drop off).take n)
def PV.setc (p : PV) (j : Nat) (x : PV) : PV := match p with | .agg cs => .agg (cs.set j x) | q => q
def PV.isAgg (p : PV) (n : Nat) : Bool := match p with | .agg cs => cs.length == n | _ => false
/-- Is a value of an interface's type nil? -/
def PV.asNil : PV → Option Bool | .nilif => some true | .err => some false | _ => none
def PV.proj (p : PV) (j : Nat) : Option PV := match p with | .tuple cs => cs[j]? | _ => none
/-- Is it one cell? -/
def PV.one : PV → Bool | .agg _ => false | .tuple _ => false | .undef => false | .os _ _ => false | .obj _ => false | _ => true
def TV.one : TV → Bool | .val p => p.one | .agg _ => false | .tuple _ => false | .undef => false | _ => true
/-- An element of a list by an int. -/
def idx {α : Type} (es : List α) (i : Int) : Option α := if 0 ≤ i then es[i.toNat]? else none
def subAgg (e : List PV) (off n : Nat) : Option PV := if off + n ≤ e.length then some (.agg ((e.drop off).take n)) else none

def constTV : Value → Option TV
  | .bool b => some (.val (.bool b))
  | .int k n => some (.val (.int k n))
  | .string s => some (.val (.str s))
  | .slice none 0 0 => some (.nil 0)
  | .pointer none => some (.val .pnil)
  | .nilFunc => some (.val .fnil)
  | .map none => some (.val .mnil)
  | .nilIface => some (.val .nilif)
  | _ => none

def evalO (G : Nat → Option (List PV)) (tm : List TV) : Operand → Option TV
  | .tmp t => tm[t]?
  | .const v => constTV v
  | .global g => match G g with | some cs => some (.val (.rp cs 0)) | none => none
  | .func f => some (.val (.fn (.func f) []))

/-- A list, each of which there must be. -/
def allSome {α : Type} : List (Option α) → Option (List α)
  | [] => some []
  | some a :: l => match allSome l with | some r => some (a :: r) | none => none
  | none :: _ => none

/-- A tree as its type says it is. -/
def coeK {R : Type} (T : TypeId → Option TI) (t : TypeId) (c : PV) (k : PV → Option R) : Option R :=
  match T t with
  | some ⟨_, _, .int ik, _⟩ => (c.asI ik).bind fun n => k (.int ik n)
  | some ⟨_, _, .bool, _⟩ => c.asB.bind fun b => k (.bool b)
  | some ⟨_, _, .string, _⟩ => c.asS.bind fun s => k (.str s)
  | some ⟨_, _, .slice _, _⟩ => c.asFs.bind fun es => k (.fs es)
  | some ⟨_, _, .struct _, _⟩ => k c
  | some ⟨_, _, .array _ _, _⟩ => k c
  | none => k c
  | _ => if c.one then k c else none

def tsize (T : TypeId → Option TI) (t : TypeId) : Nat := match T t with | some i => i.size | none => 0
def isAggT (T : TypeId → Option TI) (t : TypeId) : Bool :=
  match T t with | some ⟨_, _, .struct _, _⟩ => true | some ⟨_, _, .array _ _, _⟩ => true | _ => false

/-- nil of a slice type knows how many cells an element has. -/
def fixNil (T : TypeId → Option TI) (t : TypeId) (v : TV) : TV :=
  match v with
  | .nil 0 => match T t with | some ⟨_, _, .slice e, _⟩ => .nil (tsize T e) | _ => .nil 0
  | v => v

mutual
/-- What lies in the call's own memory as a tree, and which memory that is. -/
def reify (look : Nat → Option Ob) : Nat → TV → Option (PV × List Nat)
  | 0, _ => none
  | n + 1, v =>
    match v with
    | .val p => some (p, [])
    | .nil _ => some (.fs [], [])
    | .vc es => some (.fs es, [])
    | .ow id => match look id with
      | some (.row es _) => some (.fs es, [id])
      | some (.fro (.fs es)) => some (.fs es, [])
      | _ => none
    | .sl id off len cp => match look id with
      | some (.row es _) => some (.fs ((es.drop off).take len), [id])
      | some (.fro (.fs es)) => some (.fs ((es.drop off).take len), [])
      | some (.box cs) => if cp = true ∧ off = 0 ∧ len = cs.length ∧ len ≤ 16777216 then (match reifyL look n cs with
        | some (ps, ids) => some (.fs (ps.map fun p => [p]), id :: ids)
        | none => none) else none
      | some (.fro (.agg cs)) => if cp = true ∧ off = 0 ∧ len = cs.length ∧ len ≤ 16777216 then some (.fs (cs.map fun p => [p]), []) else none
      | _ => none
    | .ref id off => match look id with
      | some (.pbox p _) => some (.rp p.cells off, [id])
      | some (.fro (.agg cs)) => some (.rp cs off, [])
      | some (.box cs) => match reifyL look n cs with
        | some (ps, ids) => some (.rp ps off, id :: ids)
        | none => none
      | _ => none
    | .mp id => match look id with
      | some (.map kvs) => some (.fm kvs, [id])
      | some (.fro (.fm kvs)) => some (.fm kvs, [])
      | _ => none
    | .agg cs => match reifyL look n cs with
      | some (ps, ids) => some (.agg ps, ids)
      | none => none
    | .tuple cs => match reifyL look n cs with
      | some (ps, ids) => some (.tuple ps, ids)
      | none => none
    | .fn f caps => match reifyL look n caps with
      | some (ps, ids) => some (.fn f ps, ids)
      | none => none
    | _ => none
def reifyL (look : Nat → Option Ob) : Nat → List TV → Option (List PV × List Nat)
  | _, [] => some ([], [])
  | 0, _ :: _ => none
  | n + 1, v :: vs => match reify look n v, reifyL look n vs with
    | some (p, i), some (ps, is) => some (p :: ps, i ++ is)
    | _, _ => none
end


/-- Memory that was given away to be read for ever. -/
def froOb (look : Nat → Option Ob) (ids : List Nat) (id : Nat) : Ob :=
  match look id with
  | some (.row es _) => .fro (.fs es)
  | some (.map kvs) => .fro (.fm kvs)
  | some (.pbox p _) => .fro (.agg p.cells)
  | some (.box cs) => match reifyL look 99 cs with | some (ps, is) => if is.all (fun i => ids.contains i) = true then .fro (.agg ps) else .dead | none => .dead
  | _ => .dead
def froAll (look : Nat → Option Ob) (ids : List Nat) : List (Nat × Ob) := ids.map fun i => (i, froOb look ids i)

/-- Cells as a value: a tree, if each of them is one. -/
def packTV (cs : List TV) : TV :=
  match allSome (cs.map fun c => match c with | .val p => some p | _ => none) with
  | some ps => .val (.agg ps)
  | none => .agg cs

/-- What leads to memory that was given away is a tree. -/
def nrm1 (look : Nat → Option Ob) (v : TV) : TV :=
  match v with
  | .ow id => match look id with | some (.fro (.fs es)) => .val (.fs es) | _ => v
  | .sl id off len cp => match look id with
    | some (.fro (.fs es)) => .val (.fs ((es.drop off).take len))
    | some (.fro (.agg cs)) => if cp = true ∧ off = 0 ∧ len = cs.length ∧ len ≤ 16777216 then .val (.fs (cs.map fun p => [p])) else v
    | _ => v
  | .ref id off => match look id with | some (.fro (.agg cs)) => .val (.rp cs off) | _ => v
  | .eref id i j => match look id with | some (.fro (.fs es)) => (match es[i]? with | some e => .val (.rp e j) | none => v) | _ => v
  | .mp id => match look id with | some (.fro (.fm kvs)) => .val (.fm kvs) | _ => v
  | v => v
/-- .. and parts of a value that lead there. -/
def nrm (look : Nat → Option Ob) (v : TV) : TV :=
  match v with
  | .agg cs => packTV (cs.map (nrm1 look))
  | v => nrm1 look v

/-- What is told behind an operation: its value, what has changed, what is new, what was looked at. -/
abbrev K (R : Type) := TV → List (Nat × Ob) → List Ob → List Nat → Option R

def intK {R : Type} (op : BinOp) (ik : IntKind) (a b : Int) (k : PV → Option R) : Option R :=
  match op with
  | .add => k (.int ik (ik.wrap (a + b)))
  | .sub => k (.int ik (ik.wrap (a - b)))
  | .mul => k (.int ik (ik.wrap (a * b)))
  | .quo => if b = 0 then none else k (.int ik (ik.wrap (a.tdiv b)))
  | .rem => if b = 0 then none else k (.int ik (a.tmod b))
  | .and => k (.int ik (ik.wrap ((BitVec.ofInt ik.bits a &&& BitVec.ofInt ik.bits b).toNat : Nat)))
  | .or => k (.int ik (ik.wrap ((BitVec.ofInt ik.bits a ||| BitVec.ofInt ik.bits b).toNat : Nat)))
  | .xor => k (.int ik (ik.wrap ((BitVec.ofInt ik.bits a ^^^ BitVec.ofInt ik.bits b).toNat : Nat)))
  | .andNot => k (.int ik (ik.wrap ((BitVec.ofInt ik.bits a &&& ~~~(BitVec.ofInt ik.bits b)).toNat : Nat)))
  | .eql => k (.bool (a == b))
  | .neq => k (.bool (a != b))
  | .lss => k (.bool (decide (a < b)))
  | .leq => k (.bool (decide (a ≤ b)))
  | .gtr => k (.bool (decide (a > b)))
  | .geq => k (.bool (decide (a ≥ b)))
  | _ => none

def shiftK {R : Type} (op : BinOp) (ik : IntKind) (a b : Int) (k : PV → Option R) : Option R :=
  if b < 0 then none else
  match op with
  | .shl => k (.int ik (ik.wrap (a * 2 ^ (min b.toNat ik.bits))))
  | .shr => k (.int ik (a.fdiv (2 ^ (min b.toNat ik.bits))))
  | _ => none

def strK {R : Type} (op : BinOp) (a b : ByteArray) (k : PV → Option R) : Option R :=
  match op with
  | .add => if a.size + b.size ≤ 140737488355328 then k (.str (a ++ b)) else none
  | .eql => k (.bool (a.toList == b.toList))
  | .neq => k (.bool (!(a.toList == b.toList)))
  | .lss => k (.bool (Op.bytesLess a.toList b.toList))
  | _ => none

/-- Are two plain values of a type alike? (none: they are not of it) -/
def eqvT (T : TypeId → Option TI) (t : TypeId) (p q : PV) : Option Bool :=
  match T t with
  | some ⟨_, _, .int ik, _⟩ => (p.asI ik).bind fun a => (q.asI ik).bind fun b => some (a == b)
  | some ⟨_, _, .bool, _⟩ => p.asB.bind fun a => q.asB.bind fun b => some (a == b)
  | some ⟨_, _, .string, _⟩ => p.asS.bind fun a => q.asS.bind fun b => some (a.toList == b.toList)
  | _ => none
def eqvs (T : TypeId → Option TI) : List (TypeId × Nat) → List PV → List PV → Option Bool
  | [], [], [] => some true
  | f :: fs, p :: ps, q :: qs => (eqvT T f.1 p q).bind fun a => (eqvs T fs ps qs).bind fun b => some (a && b)
  | _, _, _ => none

def plainT (T : TypeId → Option TI) (t : TypeId) : Bool :=
  match T t with
  | some ⟨_, _, .bool, _⟩ => true
  | some ⟨_, _, .int _, _⟩ => true
  | some ⟨_, _, .string, _⟩ => true
  | _ => false

def isConst : Operand → Bool | .const _ => true | _ => false

def binK {R : Type} (T : TypeId → Option TI) (op : BinOp) (xt yt : TypeId) (yc : Bool) (x y : TV) (k : PV → Option R) : Option R :=
  match T xt with
  | some ⟨_, _, .int ik, _⟩ =>
    match x, y with
    | .val p, .val q =>
      match op with
      | .shl | .shr =>
        match T yt with
        | some ⟨_, _, .int yk, _⟩ => (p.asI ik).bind fun a => (q.asI yk).bind fun b => shiftK op ik a b k
        | _ => none
      | _ => (p.asI ik).bind fun a => (q.asI ik).bind fun b => intK op ik a b k
    | _, _ => none
  | some ⟨_, _, .string, _⟩ =>
    match x, y with
    | .val p, .val q => p.asS.bind fun a => q.asS.bind fun b => strK op a b k
    | _, _ => none
  | some ⟨_, _, .bool, _⟩ =>
    match x, y with
    | .val p, .val q =>
      match op with
      | .eql => p.asB.bind fun a => q.asB.bind fun b => k (.bool (a == b))
      | .neq => p.asB.bind fun a => q.asB.bind fun b => k (.bool (a != b))
      | _ => none
    | _, _ => none
  | some ⟨_, _, .struct fs, _⟩ =>
    if fs.all (fun f => plainT T f.1) && fs.map (·.2) == List.range fs.length then
      match x, y with
      | .val p, .val q =>
        match op with
        | .eql => p.asAgg.bind fun ps => q.asAgg.bind fun qs => (eqvs T fs ps qs).bind fun b => k (.bool b)
        | .neq => p.asAgg.bind fun ps => q.asAgg.bind fun qs => (eqvs T fs ps qs).bind fun b => k (.bool (!b))
        | _ => none
      | _, _ => none
    else none
  | some ⟨_, _, .array n e, _⟩ =>
    if plainT T e = true then
      match x, y with
      | .val p, .val q =>
        match op with
        | .eql => p.asAgg.bind fun ps => q.asAgg.bind fun qs => (eqvs T ((List.range n).map fun i => (e, i)) ps qs).bind fun b => k (.bool b)
        | .neq => p.asAgg.bind fun ps => q.asAgg.bind fun qs => (eqvs T ((List.range n).map fun i => (e, i)) ps qs).bind fun b => k (.bool (!b))
        | _ => none
      | _, _ => none
    else none
  | some ⟨_, _, .ptr _, _⟩ =>
    match x, y with
    | .ref _ _, .val .pnil => match op with | .eql => k (.bool false) | .neq => k (.bool true) | _ => none
    | .val p, .val .pnil => match op with | .eql => p.asPn.bind fun b => k (.bool b) | .neq => p.asPn.bind fun b => k (.bool (!b)) | _ => none
    | _, _ => none
  | some ⟨_, _, .func, _⟩ =>
    match x, y with
    | .fn _ _, .val .fnil => match op with | .eql => k (.bool false) | .neq => k (.bool true) | _ => none
    | .val (.fn _ _), .val .fnil => match op with | .eql => k (.bool false) | .neq => k (.bool true) | _ => none
    | .val .fnil, .val .fnil => match op with | .eql => k (.bool true) | .neq => k (.bool false) | _ => none
    | _, _ => none
  | some ⟨_, _, .iface, _⟩ =>
    match x, y, yc with
    | .val p, .val .nilif, true =>
      match op with
      | .eql => p.asNil.bind fun b => k (.bool b)
      | .neq => p.asNil.bind fun b => k (.bool (!b))
      | _ => none
    | _, _, _ => none
  | some ⟨_, _, .map _ _, _⟩ =>
    match x, y with
    | .val p, .val .mnil =>
      match op with
      | .eql => p.asMn.bind fun b => k (.bool b)
      | .neq => p.asMn.bind fun b => k (.bool (!b))
      | _ => none
    | _, _ => none
  | _ => none

/-- A value as the cells of a variable. -/
def tcells (n : Nat) : TV → Option (List TV)
  | .agg cs => if cs.length = n then some cs else none
  | .val p => if p.isAgg n then some (p.cells.map .val) else none
  | _ => none

/-- A value that holds none of the call's own memory as a tree. -/
def toPV : TV → Option PV
  | .val p => some p
  | .nil _ => some (.fs [])
  | .agg cs => match allSome (cs.map fun c => match c with | .val p => some p | .nil _ => some (.fs []) | _ => none) with
    | some ps => some (.agg ps)
    | none => none
  | _ => none

def bytesOf (s : ByteArray) : List (List PV) := s.data.toList.map fun b => [.int .u8 b.toNat]
/-- The string of a row of bytes. -/
def strOf : List (List PV) → Option (List UInt8)
  | [] => some []
  | [.int .u8 n] :: es => (strOf es).bind fun l => some (UInt8.ofNat n.toNat :: l)
  | _ => none

def maxBytes : Nat := 140737488355328

def loadK {R : Type} (T : TypeId → Option TI) (look : Nat → Option Ob) (t : TypeId) (x : TV) (k : K R) : Option R :=
  match x with
  | .ref id off =>
    match look id with
    | some (.box cs) =>
      if isAggT T t then
        if off + tsize T t ≤ cs.length then k (packTV ((cs.drop off).take (tsize T t))) [] [] [id] else none
      else match cs[off]? with
        | some c => k c [] [] [id]
        | none => none
    | some (.pbox p n) =>
      if isAggT T t then
        if off = 0 ∧ tsize T t = n then k (.val p) [] [] [id]
        else if off + tsize T t ≤ n then k (.val (p.sub off (tsize T t))) [] [] [id] else none
      else (p.cell off).bind fun c => coeK T t c fun c => k (.val c) [] [] [id]
    | _ => none
  | .eref id i j =>
    match look id with
    | some (.row es _) =>
      if isAggT T t then (es[i]?).bind fun e => (subAgg e j (tsize T t)).bind fun p => k (.val p) [] [] [id]
      else (es[i]?).bind fun e => (e[j]?).bind fun c => coeK T t c fun c => k (.val c) [] [] [id]
    | _ => none
  | .val (.rp cs off) =>
    if isAggT T t then (subAgg cs off (tsize T t)).bind fun p => k (.val p) [] [] []
    else (cs[off]?).bind fun c => coeK T t c fun c => k (.val c) [] [] []
  | _ => none

/-- A tree that is put over all of a variable. -/
def whole (n off m : Nat) (y : TV) : Option PV := match y with | .val p => if off = 0 ∧ n = m then some p else none | _ => none

def storeK {R : Type} (T : TypeId → Option TI) (look : Nat → Option Ob) (t : TypeId) (x y : TV) (k : K R) : Option R :=
  match x with
  | .ref id off =>
    match look id with
    | some (.box cs) =>
      if isAggT T t then
        if off + tsize T t ≤ cs.length then
          match whole (tsize T t) off cs.length y with
          | some q => if q.isAgg (tsize T t) then k .undef [(id, .pbox q (tsize T t))] [] [id] else none
          | none =>
            match tcells (tsize T t) y with
            | some ds => k .undef [(id, .box (cs.take off ++ ds ++ cs.drop (off + tsize T t)))] [] [id]
            | none => none
        else none
      else if off < cs.length ∧ y.one = true then k .undef [(id, .box (cs.set off y))] [] [id] else none
    | some (.pbox p n) =>
      if isAggT T t then
        match y with
        | .val q =>
          if off = 0 ∧ tsize T t = n then
            if q.isAgg n then k .undef [(id, .pbox q n)] [] [id] else none
          else if off + tsize T t ≤ n then
            if q.isAgg (tsize T t) then k .undef [(id, .pbox (.agg (p.cells.take off ++ q.cells ++ p.cells.drop (off + tsize T t))) n)] [] [id] else none
          else none
        | .agg ds =>
          if off = 0 ∧ tsize T t = n ∧ ds.length = n then k .undef [(id, .box ds)] [] [id] else none
        | _ => none
      else if off < n ∧ y.one = true then
        match y with
        | .val c => k .undef [(id, .pbox (p.setc off c) n)] [] [id]
        | _ => if p.isAgg n then k .undef [(id, .box ((p.cells.map .val).set off y))] [] [id] else none
      else none
    | _ => none
  | .eref id i j =>
    match look id with
    | some (.row es sz) =>
      match toPV y with
      | some q =>
        if isAggT T t then
          if j = 0 ∧ tsize T t = sz then
            if q.isAgg sz then (es[i]?).bind fun _ => k .undef [(id, .row (es.set i q.cells) sz)] [] [id] else none
          else none
        else if q.one then (es[i]?).bind fun e => (e[j]?).bind fun _ => k .undef [(id, .row (es.set i (e.set j q)) sz)] [] [id] else none
      | none => none
    | _ => none
  | _ => none

def indexAddrK {R : Type} (T : TypeId → Option TI) (look : Nat → Option Ob) (t : TypeId) (x i : TV) (k : K R) : Option R :=
  match T t, i with
  | some ⟨_, _, .slice e, _⟩, .val i =>
    match T e with
    | none => none
    | some ei =>
      match x with
      | .ow id => (i.asI .i64).bind fun i =>
        match look id with
        | some (.row es sz) => if sz = ei.size then if 0 ≤ i ∧ i < es.length then k (.eref id i.toNat 0) [] [] [id] else none else none
        | _ => none
      | .sl id off len _ => (i.asI .i64).bind fun i =>
        match look id with
        | some (.row _ sz) => if sz = ei.size then if 0 ≤ i ∧ i < len then k (.eref id (off + i.toNat) 0) [] [] [id] else none else none
        | some (.box _) => if 1 = ei.size then if off = 0 ∧ 0 ≤ i ∧ i < len then k (.ref id i.toNat) [] [] [id] else none else none
        | _ => none
      | .val p => (i.asI .i64).bind fun i => p.asFs.bind fun es => (idx es i).bind fun e => if e.length = ei.size then k (.val (.rp e 0)) [] [] [] else none
      | _ => none
  | some ⟨_, _, .array n e, _⟩, .val i =>
    match T e with
    | none => none
    | some ei =>
      match x with
      | .ref id off => (i.asI .i64).bind fun i => if 0 ≤ i ∧ i < n then k (.ref id (off + i.toNat * ei.size)) [] [] [] else none
      | .eref id m off => (i.asI .i64).bind fun i => if 0 ≤ i ∧ i < n then k (.eref id m (off + i.toNat * ei.size)) [] [] [] else none
      | .val (.rp cs off) => (i.asI .i64).bind fun i => if 0 ≤ i ∧ i < n then k (.val (.rp cs (off + i.toNat * ei.size))) [] [] [] else none
      | _ => none
  | _, _ => none

def indexK {R : Type} (T : TypeId → Option TI) (t : TypeId) (x i : TV) (k : K R) : Option R :=
  match T t, x, i with
  | some ⟨_, _, .array n e, _⟩, .val p, .val i =>
    match T e with
    | none => none
    | some ei =>
      if ei.desc.isAgg then none else
      p.asAgg.bind fun cs => (i.asI .i64).bind fun i => if 0 ≤ i ∧ i < n then (cs[i.toNat]?).bind fun c => coeK T e c fun c => k (.val c) [] [] [] else none
  | some ⟨_, _, .string, _⟩, .val p, .val i =>
    i.asN.bind fun i => p.asS.bind fun s => (idx s.data.toList i).bind fun b => k (.val (.int .u8 b.toNat)) [] [] []
  | _, _, _ => none

def allLen (n : Nat) (es : List (List PV)) : Bool := es.all fun e => e.length == n

/-- A bound of a slice expression (none: left out). -/
def boundK {R : Type} (o : Option TV) (d : Int) (k : Int → Option R) : Option R :=
  match o with
  | none => k d
  | some (.val p) => (p.asI .i64).bind k
  | some _ => none

def sliceK {R : Type} (T : TypeId → Option TI) (look : Nat → Option Ob) (t : TypeId) (x : TV) (lo hi mx : Option TV) (k : K R) : Option R :=
  if hi.isNone && mx.isSome then none else
  match T t with
  | some ⟨_, _, .string, _⟩ =>
    match x, mx with
    | .val p, none => p.asS.bind fun s => boundK lo 0 fun l => boundK hi s.size fun h =>
      if 0 ≤ l ∧ l ≤ h ∧ h ≤ s.size then k (.val (.str (s.extract l.toNat h.toNat))) [] [] [] else none
    | _, _ => none
  | some ⟨_, _, .slice e, _⟩ =>
    match T e with
    | none => none
    | some ei =>
      match x with
      | .val p => p.asFs.bind fun es => boundK lo 0 fun l => boundK hi es.length fun h => boundK mx h fun m =>
        if 0 ≤ l ∧ l ≤ h ∧ m = h ∧ h ≤ es.length ∧ allLen ei.size es = true then
          k (cond mx.isSome (.vc ((es.take h.toNat).drop l.toNat)) (.val (.fs ((es.take h.toNat).drop l.toNat)))) [] [] []
        else none
      | .ow id =>
        match look id with
        | some (.row es sz) => boundK lo 0 fun l => boundK hi es.length fun h => boundK mx h fun m =>
          if 0 ≤ l ∧ l ≤ h ∧ m = h ∧ h ≤ es.length ∧ sz = ei.size then k (.sl id l.toNat (h - l).toNat mx.isSome) [] [] [id] else none
        | _ => none
      | .sl id off len _ =>
        match look id with
        | some (.row _ sz) => boundK lo 0 fun l => boundK hi len fun h => boundK mx h fun m =>
          if 0 ≤ l ∧ l ≤ h ∧ m = h ∧ h ≤ len ∧ sz = ei.size then k (.sl id (off + l.toNat) (h - l).toNat mx.isSome) [] [] [id] else none
        | _ => none
      | .nil sz => boundK lo 0 fun l => boundK hi 0 fun h => boundK mx 0 fun m =>
        if l = 0 ∧ h = 0 ∧ m = 0 then k (.nil sz) [] [] [] else none
      | _ => none
  | _ => none

/-- The elements that a slice value has, for one who reads them now: of so many cells each. -/
def elemsK {R : Type} (look : Nat → Option Ob) (n : Nat) (x : TV) (k : List (List PV) → List Nat → Option R) : Option R :=
  match x with
  | .nil _ => k [] []
  | .vc es => if allLen n es = true then k es [] else none
  | .val p => p.asFs.bind fun es => if allLen n es = true then k es [] else none
  | .ow id =>
    match look id with
    | some (.row es sz) => if sz = n then k es [id] else none
    | _ => none
  | .sl id off len _ =>
    match look id with
    | some (.row es sz) => if sz = n then k ((es.drop off).take len) [id] else none
    | _ => none
  | _ => none

/-- A slice with elements behind it. -/
def growK {R : Type} (look : Nat → Option Ob) (nx : Nat) (i : TI) (x : TV) (ms : List (List PV)) (rd : List Nat) (k : K R) : Option R :=
  match x with
  | .nil _ => if ms.length * i.bytes ≤ maxBytes then k (.ow nx) [] [.row ms i.size] rd else none
  | .vc es =>
    if (es.length + ms.length) * i.bytes ≤ maxBytes ∧ allLen i.size es = true then
      cond ms.isEmpty (k (.vc es) [] [] rd) (k (.ow nx) [] [.row (es ++ ms) i.size] rd)
    else none
  | .ow id =>
    match look id with
    | some (.row es sz) =>
      if sz = i.size then
        if (es.length + ms.length) * i.bytes ≤ maxBytes then k (.ow nx) [(id, .dead)] [.row (es ++ ms) i.size] (id :: rd) else none
      else none
    | _ => none
  | .sl id off len cp =>
    match look id with
    | some (.row es sz) =>
      if sz = i.size then
        if (len + ms.length) * i.bytes ≤ maxBytes then
          match cp with
          | true => cond ms.isEmpty (k (.sl id off len true) [] [] (id :: rd)) (k (.ow nx) [] [.row ((es.drop off).take len ++ ms) i.size] (id :: rd))
          | false => k (.ow nx) [(id, .dead)] [.row ((es.drop off).take len ++ ms) i.size] (id :: rd)
        else none
      else none
    | _ => none
  | _ => none

def appendK {R : Type} (T : TypeId → Option TI) (look : Nat → Option Ob) (nx : Nat) (t u : TypeId) (x y : TV) (k : K R) : Option R :=
  match T t with
  | some ⟨_, _, .slice e, _⟩ =>
    match T e with
    | none => none
    | some i =>
      match T u with
      | some ⟨_, _, .string, _⟩ =>
        match y with
        | .val p => p.asS.bind fun s => if i.size = 1 then growK look nx i x (bytesOf s) [] k else none
        | _ => none
      | some ⟨_, _, .slice _, _⟩ => elemsK look i.size y fun ms rd => growK look nx i x ms rd k
      | _ => none
  | _ => none

def lenK {R : Type} (T : TypeId → Option TI) (look : Nat → Option Ob) (t : TypeId) (x : TV) (k : K R) : Option R :=
  match T t with
  | some ⟨_, _, .string, _⟩ => match x with | .val p => p.asS.bind fun s => k (.val (.int .i64 s.size)) [] [] [] | _ => none
  | some ⟨_, _, .array n _, _⟩ => k (.val (.int .i64 n)) [] [] []
  | some ⟨_, _, .slice _, _⟩ =>
    match x with
    | .val p => p.asFs.bind fun es => k (.val (.int .i64 es.length)) [] [] []
    | .ow id => match look id with | some (.row es _) => k (.val (.int .i64 es.length)) [] [] [id] | _ => none
    | .sl _ _ len _ => k (.val (.int .i64 len)) [] [] []
    | .nil _ => k (.val (.int .i64 0)) [] [] []
    | _ => none
  | some ⟨_, _, .map _ _, _⟩ =>
    match x with
    | .mp id => match look id with | some (.map kvs) => k (.val (.int .i64 kvs.length)) [] [] [id] | _ => none
    | .val p => p.asMp.bind fun kvs => k (.val (.int .i64 kvs.length)) [] [] []
    | _ => none
  | _ => none

/-- Elements of one of the call's own rows are made zero. -/
def clearK {R : Type} (T : TypeId → Option TI) (look : Nat → Option Ob) (t : TypeId) (x : TV) (k : K R) : Option R :=
  match T t with
  | some ⟨_, _, .slice e, _⟩ =>
    match T e with
    | some i =>
      match toPV (packTV i.zero) with
      | some z =>
        match x with
        | .sl id off len _ =>
          match look id with
          | some (.row es sz) => if sz = i.size ∧ i.size = z.cells.length then k .undef [(id, .row (es.take off ++ List.replicate len z.cells ++ es.drop (off + len)) sz)] [] [id] else none
          | _ => none
        | .nil _ => k .undef [] [] []
        | _ => none
      | none => none
    | none => none
  | _ => none

/-- A key's value in a map. -/
def mget (T : TypeId → Option TI) (t : TypeId) (key : PV) : List (PV × PV) → Option (Option PV)
  | [] => some none
  | kv :: l => (eqvT T t key kv.1).bind fun b => if b then some (some kv.2) else mget T t key l
def mset (T : TypeId → Option TI) (t : TypeId) (key v : PV) : List (PV × PV) → Option (List (PV × PV))
  | [] => some [(key, v)]
  | kv :: l => (eqvT T t key kv.1).bind fun b => if b then some ((key, v) :: l) else (mset T t key v l).bind fun r => some (kv :: r)

def lookupK {R : Type} (T : TypeId → Option TI) (look : Nat → Option Ob) (t : TypeId) (m i : TV) (ok : Bool) (k : K R) : Option R :=
  match T t with
  | some ⟨_, _, .map kt et, _⟩ =>
    if plainT T kt && plainT T et then
      match m, i, (match T et with | some ⟨_, _, _, [.val z]⟩ => some z | _ => none) with
      | .mp id, .val key, some z =>
        match look id with
        | some (.map kvs) => (mget T kt key kvs).bind fun r =>
          match ok with
          | true => k (.tuple [.val (r.getD z), .val (.bool r.isSome)]) [] [] [id]
          | false => k (.val (r.getD z)) [] [] [id]
        | _ => none
      | .val p, .val key, some z =>
        p.asMp.bind fun kvs => (mget T kt key kvs).bind fun r =>
          match ok with
          | true => k (.tuple [.val (r.getD z), .val (.bool r.isSome)]) [] [] []
          | false => k (.val (r.getD z)) [] [] []
      | _, _, _ => none
    else none
  | _ => none

def mapUpdateK {R : Type} (T : TypeId → Option TI) (look : Nat → Option Ob) (t : TypeId) (m i x : TV) (k : K R) : Option R :=
  match T t with
  | some ⟨_, _, .map kt et, _⟩ =>
    if plainT T kt && plainT T et then
      match m, i, x with
      | .mp id, .val key, .val v =>
        match look id with
        | some (.map kvs) => (mset T kt key v kvs).bind fun r => k .undef [(id, .map r)] [] [id]
        | _ => none
      | _, _, _ => none
    else none
  | _ => none

def convertK {R : Type} (T : TypeId → Option TI) (look : Nat → Option Ob) (nx : Nat) (src dst : TypeId) (x : TV) (k : K R) : Option R :=
  match T src, T dst with
  | some ⟨_, _, .int sk, _⟩, some ⟨_, _, .int dk, _⟩ =>
    match x with | .val p => (p.asI sk).bind fun n => k (.val (.int dk (dk.wrap n))) [] [] [] | _ => none
  | some ⟨_, _, .string, _⟩, some ⟨_, _, .string, _⟩ =>
    match x with | .val p => p.asS.bind fun s => k (.val (.str s)) [] [] [] | _ => none
  | some ⟨_, _, .slice e, _⟩, some ⟨_, _, .string, _⟩ =>
    match T e with
    | some ⟨1, 1, .int .u8, _⟩ => elemsK look 1 x fun es rd => (strOf es).bind fun l => k (.val (.str ⟨l.toArray⟩)) [] [] rd
    | _ => none
  | _, _ => none


def fieldAddrK {R : Type} (T : TypeId → Option TI) (t : TypeId) (x : TV) (f : Nat) (k : K R) : Option R :=
  match T t with
  | some ⟨_, _, .struct fs, _⟩ =>
    match fs[f]? with
    | some (ft, fo) =>
      if tsize T ft = 0 then none else
      match x with
      | .ref id off => k (.ref id (off + fo)) [] [] []
      | .eref id i j => k (.eref id i (j + fo)) [] [] []
      | .val (.rp cs off) => k (.val (.rp cs (off + fo))) [] [] []
      | _ => none
    | none => none
  | _ => none

def fieldK {R : Type} (T : TypeId → Option TI) (t : TypeId) (x : TV) (f : Nat) (k : K R) : Option R :=
  match T t with
  | some ⟨_, _, .struct fs, _⟩ =>
    match fs[f]? with
    | some (ft, fo) =>
      match x with
      | .val p => p.asAgg.bind fun cs =>
        match T ft with
        | none => none
        | some i =>
          if i.desc.isAgg then (subAgg cs fo i.size).bind fun q => k (.val q) [] [] []
          else (cs[fo]?).bind fun c => coeK T ft c fun c => k (.val c) [] [] []
      | .agg cs =>
        match T ft with
        | none => none
        | some i => if i.desc.isAgg then none else match cs[fo]? with | some c => k c [] [] [] | none => none
      | _ => none
    | none => none
  | _ => none

/-- Cells with those of a part in their place. -/
def putParts (T : TypeId → Option TI) (fs : List (TypeId × Nat)) : List TV → List (Nat × Option TV) → Option (List TV)
  | cs, [] => some cs
  | cs, (i, v) :: r =>
    match fs[i]?, v with
    | some (ft, fo), some v =>
      match (if isAggT T ft then tcells (tsize T ft) v else if v.one then some [fixNil T ft v] else none) with
      | some ds => if fo + ds.length ≤ cs.length then putParts T fs (cs.take fo ++ ds ++ cs.drop (fo + ds.length)) r else none
      | none => none
    | _, _ => none

def buildK {R : Type} (T : TypeId → Option TI) (t : TypeId) (parts : List (Nat × Option TV)) (k : K R) : Option R :=
  match T t with
  | some ⟨_, _, .struct fs, z⟩ =>
    if fs.all (fun f => (T f.1).isSome) = true then
      match putParts T fs z parts with | some cs => k (packTV cs) [] [] [] | none => none
    else none
  | some ⟨_, _, .array n e, z⟩ =>
    match T e with
    | some _ => match putParts T ((List.range n).map fun i => (e, i * tsize T e)) z parts with | some cs => k (packTV cs) [] [] [] | none => none
    | none => none
  | _ => none

/-- The rows of a slice literal: each element there is, in order. -/
def litRows (T : TypeId → Option TI) (e : TypeId) : Nat → List (Nat × Option TV) → Option (List (List PV))
  | _, [] => some []
  | j, (i, v) :: r =>
    if i = j then
      match v with
      | some v =>
        match toPV v, litRows T e (j + 1) r with
        | some p, some es => if isAggT T e then (if p.isAgg (tsize T e) then some (p.cells :: es) else none) else if p.one then some ([p] :: es) else none
        | _, _ => none
      | none => none
    else none

def litK {R : Type} (T : TypeId → Option TI) (e : TypeId) : Nat → List (Nat × Option TV) → (List (List PV) → Option R) → Option R
  | _, [], k => k []
  | j, (i, v) :: r, k =>
    if i = j then
      match v with
      | some v =>
        match toPV v with
        | some p =>
          if isAggT T e then (if p.isAgg (tsize T e) then litK T e (j + 1) r fun es => k (p.cells :: es) else none)
          else if p.one then litK T e (j + 1) r fun es => k ([p] :: es) else none
        | none => none
      | none => none
    else none

def buildSliceK {R : Type} (T : TypeId → Option TI) (nx : Nat) (t : TypeId) (n : Nat) (parts : List (Nat × Option TV)) (k : K R) : Option R :=
  match T t with
  | some ⟨_, _, .slice e, _⟩ =>
    match T e with
    | some i =>
      if parts.length = n ∧ n * i.size ≤ 16777216 then
        litK T e 0 parts fun es => k (.ow nx) [] [.row es i.size] []
      else none
    | none => none
  | _ => none

def makeSliceK {R : Type} (T : TypeId → Option TI) (nx : Nat) (t : TypeId) (l c : TV) (k : K R) : Option R :=
  match T t with
  | some ⟨_, _, .slice e, _⟩ =>
    match l, c, T e with
    | .val p, .val q, some i =>
      match toPV (packTV i.zero) with
      | some z => (p.asI .i64).bind fun a => (q.asI .i64).bind fun b =>
        if a = b ∧ 0 ≤ a ∧ a * i.bytes ≤ maxBytes ∧ i.size = z.cells.length then k (.ow nx) [] [.row (List.replicate a.toNat z.cells) i.size] [] else none
      | none => none
    | _, _, _ => none
  | _ => none

mutual
/-- A tree as memory of the call's own, where its shape says so. -/
def impK {R : Type} : Shp → PV → Nat → (TV → List Ob → Option R) → Option R
  | .d, p, _, k => k (.val p) []
  | .s, p, nx, k => p.asOs.bind fun x => k (.ow nx) [.row x.1 x.2]
  | .o shs, p, nx, k => p.asObj.bind fun cs => impLK shs cs nx fun tvs obs => k (.ref (nx + obs.length) 0) (obs ++ [.box tvs])
  | .a shs, p, nx, k => p.asAgg.bind fun cs => impLK shs cs nx fun tvs obs => k (.agg tvs) obs
  | .t shs, p, nx, k => p.asTup.bind fun cs => impLK shs cs nx fun tvs obs => k (.tuple tvs) obs
def impLK {R : Type} : List Shp → List PV → Nat → (List TV → List Ob → Option R) → Option R
  | [], cs, _, k => if cs.isEmpty then k [] [] else none
  | sh :: shs, cs, nx, k => cs.head?.bind fun c => impK sh c nx fun tv obs => impLK shs cs.tail (nx + obs.length) fun tvs obs' => k (tv :: tvs) (obs ++ obs')
end

def Shp.isD : Shp → Bool | .d => true | _ => false

/-- A tree that is handed over: it; what of the call's own is lent with it; what is given. -/
abbrev Exp := PV × List Nat × List Nat

mutual
/-- Memory of the call's own as a tree, to be handed over as its shape says. -/
def expS (look : Nat → Option Ob) : Shp → TV → Option Exp
  | .d, v => match reify look 100 v with | some (p, ids) => some (p, ids, []) | none => none
  | .s, v =>
    match v with
    | .nil sz => some (.os [] sz, [], [])
    | .ow id => match look id with | some (.row es sz) => some (.os es sz, [], [id]) | _ => none
    | .sl id off len false => match look id with | some (.row es sz) => some (.os ((es.drop off).take len) sz, [], [id]) | _ => none
    | _ => none
  | .o shs, v =>
    match v with
    | .ref id 0 =>
      match look id with
      | some (.pbox p n) => if shs.all Shp.isD && shs.length == n then some (.obj p.cells, [], [id]) else none
      | some (.box cs) => match expL look shs cs with | some (ps, l, o) => some (.obj ps, l, id :: o) | none => none
      | _ => none
    | _ => none
  | .a shs, v =>
    match v with
    | .agg cs => match expL look shs cs with | some (ps, l, o) => some (.agg ps, l, o) | none => none
    | .val p => if shs.all Shp.isD && p.isAgg shs.length then some (p, [], []) else none
    | _ => none
  | .t shs, v =>
    match v with
    | .tuple cs => match expL look shs cs with | some (ps, l, o) => some (.tuple ps, l, o) | none => none
    | _ => none
def expL (look : Nat → Option Ob) : List Shp → List TV → Option (List PV × List Nat × List Nat)
  | [], [] => some ([], [], [])
  | sh :: shs, v :: vs => match expS look sh v, expL look shs vs with
    | some (p, l, o), some (ps, ls, os) => some (p :: ps, l ++ ls, o ++ os)
    | _, _ => none
  | _, _ => none
end

end Go.Proofs.YtpaifgipdhgfkaaGreatDoorV

/- The reading machine: calls, operations, regions, code: definitions alone. -/
namespace Go.Proofs.YtpaifgipdhgfkaaGreatDoorV
open Go

/-- Arguments, gathered: as trees; what is lent; what is given: which memory, and where it stands. -/
structure Args where
  ps : List PV
  lent : List Nat
  lins : List (TV × Shp × Bool × List Nat)

def gather (look : Nat → Option Ob) : List (Option (Shp × Bool)) → List TV → Option Args
  | [], [] => some ⟨[], [], []⟩
  | none :: ms, v :: vs =>
    match reify look 100 v, gather look ms vs with
    | some (p, ids), some a => some ⟨p :: a.ps, ids ++ a.lent, a.lins⟩
    | _, _ => none
  | some (sh, back) :: ms, v :: vs =>
    match expS look sh v, gather look ms vs with
    | some (p, l, ids), some a => some ⟨p :: a.ps, l ++ a.lent, (v, sh, back, ids) :: a.lins⟩
    | _, _ => none
  | _, _ => none

def deadAll (ids : List Nat) : List (Nat × Ob) := ids.map fun i => (i, .dead)

/-- What was given is as the callee has left it (or it is gone). -/
def outsK {R : Type} (look : Nat → Option Ob) : List (TV × Shp × Bool × List Nat) → List PV → Nat → (List (Nat × Ob) → List Ob → Option R) → Option R
  | [], _, _, k => k [] []
  | (_, _, false, ids) :: ls, outs, nx, k => outsK look ls outs nx fun up nw => k (deadAll ids ++ up) nw
  | (v, sh, true, ids) :: ls, outs, nx, k =>
    outs.head?.bind fun p =>
    match v, sh with
    | .ref id 0, .o shs => p.asObj.bind fun cs => impLK shs cs nx fun tvs obs =>
      outsK look ls outs.tail (nx + obs.length) fun up nw => k ((id, .box tvs) :: (deadAll ids.tail ++ up)) (obs ++ nw)
    | .ow id, .s =>
      match look id with
      | some (.row _ sz) => p.asOs.bind fun x => if x.2 = sz then outsK look ls outs.tail nx fun up nw => k ((id, .row x.1 sz) :: up) nw else none
      | _ => none
    | _, _ => none

def noDup : List Nat → Bool
  | [] => true
  | i :: is => !is.contains i && noDup is

def callK {R : Type} (Γ : FuncId → Option Cal) (look : Nat → Option Ob) (nx : Nat) (g : FuncId) (args : List TV) (k : K R) : Option R :=
  match Γ g with
  | some (.ctr c) =>
    match gather look c.modes args with
    | none => none
    | some a =>
      if noDup (a.lins.flatMap (·.2.2.2)) && a.lent.all (fun i => !(a.lins.flatMap (·.2.2.2)).contains i) then
        (c.D a.ps).bind fun y => outsK look a.lins (c.E y).2 nx fun up nw => impK c.res (c.E y).1 (nx + nw.length) fun tv obs =>
          k tv (up ++ (if c.scal then [] else froAll look a.lent)) (nw ++ obs) (a.lent ++ a.lins.flatMap (·.2.2.2))
      else none
  | _ => none

def unK {R : Type} (T : TypeId → Option TI) (op : UnOp) (xt : TypeId) (x : TV) (k : PV → Option R) : Option R :=
  match op, T xt, x with
  | .neg, some ⟨_, _, .int ik, _⟩, .val p => (p.asI ik).bind fun n => k (.int ik (ik.wrap (0 - n)))
  | .not, some ⟨_, _, .bool, _⟩, .val p => p.asB.bind fun b => k (.bool (!b))
  | _, _, _ => none

def nextK {R : Type} (look : Nat → Option Ob) (x : TV) (k : K R) : Option R :=
  match x with
  | .it id =>
    match look id with
    | some (.sit s pos) =>
      if pos < s.size then
        k (.tuple [.val (.bool true), .val (.int .i64 pos), .val (.int .i32 (Utf8.decode s pos).1)]) [(id, .sit s (pos + (Utf8.decode s pos).2))] [] [id]
      else k (.tuple [.val (.bool false)]) [] [] [id]
    | _ => none
  | _ => none

/-- A value that a variable of the call's own begins with. -/
def boxOb (T : TypeId → Option TI) (t : TypeId) (v : TV) : Option Ob :=
  if isAggT T t then
    match v with
    | .val p => if p.isAgg (tsize T t) then some (.pbox p (tsize T t)) else none
    | .agg cs => if cs.length = tsize T t then some (.box cs) else none
    | _ => none
  else if v.one then some (.box [fixNil T t v]) else none

def valsOf (l : List TV) : Option (List PV) := allSome (l.map fun c => match c with | .val p => some p | _ => none)

/-- An answer as its type says it is. -/
def resK {R : Type} (T : TypeId → Option TI) (ty : TypeId) (k : K R) : K R := fun tv up nw rd =>
  match tv with
  | .val r => coeK T ty r fun r => k (.val r) up nw rd
  | tv => k tv up nw rd

def evOpt (ev : Operand → Option TV) : Option Operand → Option (Option TV)
  | none => some none
  | some x => match ev x with | some v => some (some v) | none => none

def opK {R : Type} (T : TypeId → Option TI) (Γ : FuncId → Option Cal) (look : Nat → Option Ob) (nx : Nat) (ev : Operand → Option TV)
    (o : Op) (ty : TypeId) (k : K R) : Option R :=
  match o with
  | .move x | .assign x => match ev x with | some v => k (fixNil T ty v) [] [] [] | none => none
  | .pick c a b =>
    match ev c, ev a, ev b with
    | some (.val p), some u, some v => p.asB.bind fun t => cond t (k u [] [] []) (k v [] [] [])
    | _, _, _ => none
  | .alloc t => match T t with | some i => k (.ref nx 0) [] [.box i.zero] [] | none => none
  | .box t x => match ev x, T t with
    | some v, some _ => match boxOb T t v with | some ob => k (.ref nx 0) [] [ob] [] | none => none
    | _, _ => none
  | .load t a => match ev a, T t with | some v, some _ => loadK T look t v k | _, _ => none
  | .store t a x => match ev a, ev x, T t with | some v, some u, some _ => storeK T look t v (fixNil T t u) k | _, _, _ => none
  | .nilCheck x =>
    match ev x with
    | some (.ref i j) => k (.ref i j) [] [] []
    | some (.eref i j m) => k (.eref i j m) [] [] []
    | some (.val (.rp cs off)) => k (.val (.rp cs off)) [] [] []
    | some (.val (.fn (.func f) cs)) => k (.val (.fn (.func f) cs)) [] [] []
    | some (.fn (.func f) cs) => k (.fn (.func f) cs) [] [] []
    | _ => none
  | .binOp op xt x y yt => match ev x, ev y with | some u, some v => binK T op xt yt (isConst y) u v fun p => k (.val p) [] [] [] | _, _ => none
  | .unOp op xt x => match ev x with | some u => unK T op xt u fun p => k (.val p) [] [] [] | none => none
  | .convert src dst x => match ev x with | some u => convertK T look nx src dst u k | none => none
  | .makeFunc fn first caps =>
    match first.toList, allSome (caps.toList.map ev) with
    | [], some vs => match valsOf vs with | some ps => k (.val (.fn fn ps)) [] [] [] | none => k (.fn fn vs) [] [] []
    | _, _ => none
  | .makeMap _ none => k (.mp nx) [] [.map []] []
  | .makeSlice t l c => match ev l, ev c with | some u, some v => makeSliceK T nx t u v k | _, _ => none
  | .slice t x lo hi mx =>
    match ev x, evOpt ev lo, evOpt ev hi, evOpt ev mx with
    | some u, some l, some h, some m => sliceK T look t u l h m k
    | _, _, _, _ => none
  | .fieldAddr t x f => match ev x with | some u => fieldAddrK T t u f k | none => none
  | .field t x f => match ev x with | some u => fieldK T t u f k | none => none
  | .indexAddr t x i => match ev x, ev i with | some u, some v => indexAddrK T look t u v k | _, _ => none
  | .index t x i => match ev x, ev i with | some u, some v => indexK T t u v k | _, _ => none
  | .lookup t x i ok => match ev x, ev i with | some u, some v => lookupK T look t u v ok k | _, _ => none
  | .mapUpdate t m i x => match ev m, ev i, ev x with | some u, some v, some z => mapUpdateK T look t u v z k | _, _, _ => none
  | .build t parts => buildK T t (parts.toList.map fun x => (x.1, ev x.2)) k
  | .buildSlice t n parts => buildSliceK T nx t n (parts.toList.map fun x => (x.1, ev x.2)) k
  | .range t x =>
    match T t, ev x with
    | some ⟨_, _, .string, _⟩, some (.val p) => p.asS.bind fun s => k (.it nx) [] [.sit s 0] []
    | some ⟨_, _, .map _ _, _⟩, some (.val p) => p.asMp.bind fun kvs => k (.it nx) [] [.mit kvs []] []
    | _, _ => none
  | .entry x =>
    match ev x with
    | some (.it id) =>
      match look id with
      | some (.mit _ [p, q]) => k (.tuple [.val p, .val q]) [] [] [id]
      | _ => none
    | _ => none
  | .next x true => match ev x with | some u => nextK look u k | none => none
  | .extract x i =>
    match ev x with
    | some (.tuple vs) => match vs[i]? with | some v => k v [] [] [] | none => none
    | some (.val p) => (p.proj i).bind fun c => coeK T ty c fun c => k (.val c) [] [] []
    | _ => none
  | .call c =>
    match c.callee, allSome (c.args.toList.map ev), c.argTypes.toList with
    | .builtin .len, some [x], t :: _ => lenK T look t x k
    | .builtin .append, some [x, y], t :: u :: _ => appendK T look nx t u x y k
    | .builtin .clear, some [x], t :: _ => clearK T look t x k
    | .builtin .min, some [.val p, .val q], t :: _ =>
      match T t with
      | some ⟨_, _, .int ik, _⟩ => (p.asI ik).bind fun a => (q.asI ik).bind fun b => k (.val (.int ik (if b < a then b else a))) [] [] []
      | _ => none
    | .builtin .max, some [.val p, .val q], t :: _ =>
      match T t with
      | some ⟨_, _, .int ik, _⟩ => (p.asI ik).bind fun a => (q.asI ik).bind fun b => k (.val (.int ik (if a < b then b else a))) [] [] []
      | _ => none
    | .value f, some args, _ =>
      match ev f with
      | some (.val (.fn (.func g) caps)) => callK Γ look nx g (args ++ caps.map .val) (resK T ty k)
      | some (.fn (.func g) caps) => callK Γ look nx g (args ++ caps) (resK T ty k)
      | _ => none
    | _, _, _ => none
  | _ => none

def setOb (ob : List Ob) : List (Nat × Ob) → List Ob
  | [] => ob
  | (i, o) :: r => setOb (ob.set i o) r

def St.put (s : St) (d : Option Nat) (v : TV) (up : List (Nat × Ob)) (nw : List Ob) : St :=
  { s with tm := (match d with | some d => s.tm.set d v | none => s.tm), ob := setOb s.ob up ++ nw }

structure Foot where
  rd : List Nat
  wr : List Nat

def Foot.free (a b : Foot) : Bool := a.wr.all (fun i => !b.rd.contains i && !b.wr.contains i) && b.wr.all fun i => !a.rd.contains i

/-- An operand, as it is now. -/
def evS (G : Nat → Option (List PV)) (s : St) (x : Operand) : Option TV := match evalO G s.tm x with | some v => some (nrm (fun i => s.ob[i]?) v) | none => none

/-- Which memory of the call's own a value leads to, if it can be read as a tree. -/
def frzIds (look : Nat → Option Ob) (v : TV) : List Nat := match reify look 100 v with | some (_, ids) => ids | none => []
/-- What an operation puts into a row, or a map, is to be read from now on. -/
def frzOf (look : Nat → Option Ob) (ev : Operand → Option TV) (o : Op) : List Nat :=
  match o with
  | .buildSlice _ _ parts => parts.toList.flatMap fun x => match ev x.2 with | some v => frzIds look v | none => []
  | .store _ a x => match ev a with | some (.eref _ _ _) => (match ev x with | some v => frzIds look v | none => []) | _ => []
  | .mapUpdate _ _ _ x => match ev x with | some v => frzIds look v | none => []
  | .range _ x => match ev x with | some v => frzIds look v | none => []
  | _ => []
def frzSt (ids : List Nat) (s : St) : St := cond ids.isEmpty s { s with ob := setOb s.ob (froAll (fun i => s.ob[i]?) ids) }

/-- A call whose callee's own code is run. -/
def inlOf (Γ : FuncId → Option Cal) (ev : Operand → Option TV) (o : Op) : Option (((R : Type) → St → List TV → (TV → St → Option R) → Option R) × List TV) :=
  match o with
  | .call c =>
    match c.callee with
    | .value f =>
      match allSome (c.args.toList.map ev), ev f with
      | some args, some (.val (.fn (.func g) caps)) => match Γ g with | some (.inl F) => some (F, args ++ caps.map .val) | _ => none
      | some args, some (.fn (.func g) caps) => match Γ g with | some (.inl F) => some (F, args ++ caps) | _ => none
      | _, _ => none
    | _ => none
  | _ => none

/-- What all of some come to (none, if they are unlike). -/
noncomputable def meet {R : Type} (x y : Option R) : Option R := by
  classical exact if x = y then x else none
/-- Has a slice no elements (then it may be nil, or not)? -/
def empOf (look : Nat → Option Ob) : TV → Option Bool
  | .val (.fs es) => some es.isEmpty
  | .nil _ => some true
  | .ow id => match look id with | some (.row es _) => some es.isEmpty | _ => none
  | _ => none
/-- A slice beside the literal nil: is it asked whether it is not nil; has it no elements? -/
def nilOf (T : TypeId → Option TI) (look : Nat → Option Ob) (ev : Operand → Option TV) (o : Op) : Option (Bool × Bool) :=
  match o with
  | .binOp op xt x (.const (.slice none 0 0)) _ =>
    match op, T xt, ev x with
    | .eql, some ⟨_, _, .slice _, _⟩, some v => match empOf look v with | some e => some (false, e) | none => none
    | .neq, some ⟨_, _, .slice _, _⟩, some v => match empOf look v with | some e => some (true, e) | none => none
    | _, _, _ => none
  | _ => none
/-- Each of some, and the others. -/
def picks {α : Type} : List α → List (α × List α)
  | [] => []
  | a :: l => (a, l) :: (picks l).map fun x => (x.1, a :: x.2)
/-- What all choices come to (none, if they are unlike, or there is none). -/
noncomputable def pickL {α R : Type} (l : List α) (f : α → List α → Option R) : Option R := by
  classical exact if h : ∃ r, picks l ≠ [] ∧ ∀ x ∈ picks l, f x.1 x.2 = some r then some (Classical.choose h) else none
/-- The next one of a map's entries: which map's, and what is left. -/
def mitOf (look : Nat → Option Ob) (ev : Operand → Option TV) (o : Op) : Option (Nat × List (PV × PV)) :=
  match o with
  | .next x false => match ev x with | some (.it id) => (match look id with | some (.mit left _) => some (id, left) | _ => none) | _ => none
  | _ => none
/-- One operation, and what follows. -/
def stepK1 {R : Type} (T : TypeId → Option TI) (G : Nat → Option (List PV)) (Γ : FuncId → Option Cal) (o : Oper) (s : St) (k : St → Foot → Option R) : Option R :=
  opK T Γ (fun i => s.ob[i]?) s.ob.length (evS G s) o.op o.type fun v up nw rd => cond (up.all fun x => decide (x.1 < s.ob.length)) (k (s.put o.dst v up nw) ⟨rd, up.map (·.1)⟩) none
/-- A variable that is never written behind its beginning (so the list of callees says, by a number of its own): it is to be read from now on. -/
def roOf (Γ : FuncId → Option Cal) (o : Oper) : Bool := match o.op, o.dst with | .box _ _, some d => (Γ (1000000000 + d)).isSome | _, _ => false
def frzNew (i : Nat) (s : St) : St := match s.ob[i]? with | some x => cond x.live (frzSt [i] s) s | none => s
noncomputable def stepK2 {R : Type} (T : TypeId → Option TI) (G : Nat → Option (List PV)) (Γ : FuncId → Option Cal) (o : Oper) (s : St) (k : St → Foot → Option R) : Option R :=
  match nilOf T (fun i => s.ob[i]?) (evS G s) o.op with
  | some x => cond x.2 (meet (k (s.put o.dst (.val (.bool true)) [] []) ⟨[], []⟩) (k (s.put o.dst (.val (.bool false)) [] []) ⟨[], []⟩)) (k (s.put o.dst (.val (.bool x.1)) [] []) ⟨[], []⟩)
  | none =>
  match mitOf (fun i => s.ob[i]?) (evS G s) o.op with
  | some x => cond x.2.isEmpty (k (s.put o.dst (.tuple [.val (.bool false)]) [] []) ⟨[], []⟩)
      (pickL x.2 fun kv rest => k (s.put o.dst (.tuple [.val (.bool true), .val kv.1, .val kv.2]) [(x.1, .mit rest [kv.1, kv.2])] []) ⟨[], []⟩)
  | none =>
  match inlOf Γ (evS G s) o.op with
  | some x => x.1 R s x.2 fun v s' => k (s'.put o.dst v [] []) ⟨[], []⟩
  | none => cond (roOf Γ o) (stepK1 T G Γ o s fun s' f => k (frzNew s.ob.length s') f) (stepK1 T G Γ o s k)
/-- A slice of slices of the call's own (so the list of callees says, by a number of its own): its parts. -/
def bsOf (T : TypeId → Option TI) (Γ : FuncId → Option Cal) (ev : Operand → Option TV) (o : Oper) : Option (List TV) :=
  match o.op, o.dst with
  | .buildSlice t n parts, some d =>
    cond (Γ (2000000000 + d)).isSome
      (match T t with
      | some ⟨_, _, .slice e, _⟩ =>
        match T e with
        | some ei =>
          match allSome (parts.toList.map fun x => ev x.2) with
          | some tvs => if ei.size = 1 ∧ parts.toList.map (·.1) = List.range' 0 n ∧ 0 < n ∧ n ≤ 16777216 ∧ tvs.all TV.one = true then some tvs else none
          | none => none
        | none => none
      | _ => none) none
  | _, _ => none
noncomputable def stepK {R : Type} (T : TypeId → Option TI) (G : Nat → Option (List PV)) (Γ : FuncId → Option Cal) (o : Oper) (s : St) (k : St → Foot → Option R) : Option R :=
  match bsOf T Γ (evS G s) o with
  | some tvs => k (s.put o.dst (.sl s.ob.length 0 tvs.length true) [] [.box tvs]) ⟨[], []⟩
  | none => stepK2 T G Γ o (frzSt (frzOf (fun i => s.ob[i]?) (evS G s) o.op) s) k

def skipOp (o : Oper) (s : St) : St := s.put o.dst (.tuple []) [] []

/-- The operations of a region, in the text's order. -/
noncomputable def opsK {R : Type} (T : TypeId → Option TI) (G : Nat → Option (List PV)) (Γ : FuncId → Option Cal) (ops : Array Oper) : List Oper → St → List Foot → (St → List Foot → Option R) → Option R
  | [], s, fs, k => k s fs
  | o :: rest, s, fs, k =>
    match o.guard with
    | none => stepK T G Γ o s fun s' f => opsK T G Γ ops rest s' (fs ++ [f]) k
    | some (j, want) =>
      match (ops[j]?).bind (·.dst) with
      | some d =>
        match s.tm[d]? with
        | some (.val p) => p.asB.bind fun b =>
          cond b
            (cond want (stepK T G Γ o { s with tm := s.tm.set d (.val (.bool true)) } fun s' f => opsK T G Γ ops rest s' (fs ++ [f]) k)
              (opsK T G Γ ops rest (skipOp o { s with tm := s.tm.set d (.val (.bool true)) }) (fs ++ [⟨[], []⟩]) k))
            (cond want (opsK T G Γ ops rest (skipOp o { s with tm := s.tm.set d (.val (.bool false)) }) (fs ++ [⟨[], []⟩]) k)
              (stepK T G Γ o { s with tm := s.tm.set d (.val (.bool false)) } fun s' f => opsK T G Γ ops rest s' (fs ++ [f]) k))
        | some (.tuple []) => opsK T G Γ ops rest (skipOp o s) (fs ++ [⟨[], []⟩]) k
        | _ => none
      | none => none

/-- Which operations stand ahead of one in every order. -/
def ahead (ops : List Oper) : List (List Nat) :=
  ops.foldl (fun acc o => acc ++ [(o.after.toList.filter (Region.binds .any)).flatMap fun e => e.on :: acc.getD e.on []]) []

/-- Whatever order is picked, it comes to the same. -/
def anyOrder (ops : List Oper) (fs : List Foot) : Bool :=
  let ah := ahead ops
  (List.range fs.length).all fun j => (List.range j).all fun i => (ah.getD j []).contains i || (fs.getD i ⟨[], []⟩).free (fs.getD j ⟨[], []⟩)

/-- Operations that only reckon. -/
def pureB (T : TypeId → Option TI) (o : Oper) : Bool :=
  match o.op with
  | .move _ => true
  | .assign _ => true
  | .pick _ _ _ => true
  | .extract _ _ => true
  | .indexAddr _ _ _ => true
  | .fieldAddr _ _ _ => true
  | .slice t _ _ _ _ => match T t with | some ⟨_, _, .string, _⟩ => true | some ⟨_, _, .slice _, _⟩ => true | _ => false
  | .unOp _ _ _ => true
  | .binOp _ xt _ _ _ => match T xt with | some ⟨_, _, .int _, _⟩ => true | _ => false
  | .call c =>
    match c.callee, c.argTypes.toList with
    | .builtin .len, t :: _ => match T t with | some ⟨_, _, .string, _⟩ => true | some ⟨_, _, .slice _, _⟩ => true | _ => false
    | _, _ => false
  | .nilCheck _ => true
  | _ => false
/-- .. or read what nobody writes. -/
def pureS (T : TypeId → Option TI) (G : Nat → Option (List PV)) (s : St) (o : Oper) : Bool :=
  match o.op with
  | .load _ a => match evS G s a with | some (.val (.rp _ _)) => true | _ => false
  | _ => pureB T o
def baseT (T : TypeId → Option TI) (t : TypeId) : Bool := match T t with | some ⟨_, _, .int _, _⟩ => true | some ⟨_, _, .bool, _⟩ => true | some ⟨_, _, .string, _⟩ => true | _ => false
def isVal : TV → Bool | .val _ => true | _ => false
def isD : Shp → Bool | .d => true | _ => false
/-- .. or ask a function that only reads, and answers a number, a text, yes or no. -/
def calmS (T : TypeId → Option TI) (G : Nat → Option (List PV)) (Γ : FuncId → Option Cal) (s : St) (o : Oper) : Bool :=
  match o.op with
  | .call c =>
    match c.callee with
    | .value f =>
      match allSome (c.args.toList.map (evS G s)), evS G s f with
      | some args, some (.val (.fn (.func g) [])) => match Γ g with | some (.ctr ct) => baseT T o.type && args.all isVal && ct.scal && ct.modes.all Option.isNone && isD ct.res | _ => false
      | _, _ => false
    | _ => false
  | _ => false
def firstS (T : TypeId → Option TI) (G : Nat → Option (List PV)) (Γ : FuncId → Option Cal) (s : St) (o : Oper) : Bool := pureS T G s o || calmS T G Γ s o
/-- An operation of a region that stands behind a test, or not. -/
noncomputable def gK {R : Type} (T : TypeId → Option TI) (G : Nat → Option (List PV)) (Γ : FuncId → Option Cal) (ops : Array Oper) (o : Oper) (s : St) (k : St → Option R) : Option R :=
  match o.guard with
  | none => stepK T G Γ o s fun s' _ => k s'
  | some (j, want) =>
    match (ops[j]?).bind (·.dst) with
    | some d =>
      match s.tm[d]? with
      | some (.val p) => p.asB.bind fun b =>
        cond b
          (cond want (stepK T G Γ o { s with tm := s.tm.set d (.val (.bool true)) } fun s' _ => k s')
            (k (skipOp o { s with tm := s.tm.set d (.val (.bool true)) })))
          (cond want (k (skipOp o { s with tm := s.tm.set d (.val (.bool false)) }))
            (stepK T G Γ o { s with tm := s.tm.set d (.val (.bool false)) } fun s' _ => k s'))
      | some (.tuple []) => k (skipOp o s)
      | _ => none
    | none => none

noncomputable def meetAll {R : Type} : List (Option R) → Option R
  | [] => none
  | [x] => x
  | x :: y :: l => meet x (meetAll (y :: l))

/-- The operations of a region in whatever order: those that only reckon first; of the others whichever may come. -/
noncomputable def anyK {R : Type} (T : TypeId → Option TI) (G : Nat → Option (List PV)) (Γ : FuncId → Option Cal) (ops : Array Oper) : Nat → Array Bool → St → (St → Option R) → Option R
  | 0, listed, s, k => cond (Region.ready .any ops listed).isEmpty (k s) none
  | n + 1, listed, s, k =>
    match Region.ready .any ops listed with
    | [] => k s
    | i :: is =>
      match (i :: is).find? fun i => Region.free .any ops listed i && (match ops[i]? with | some o => firstS T G Γ s o | none => false) with
      | some i => match ops[i]? with | some o => gK T G Γ ops o s fun s' => anyK T G Γ ops n (listed.setIfInBounds i true) s' k | none => none
      | none => meetAll ((i :: is).map fun i => match ops[i]? with | some o => gK T G Γ ops o s fun s' => anyK T G Γ ops n (listed.setIfInBounds i true) s' k | none => none)

inductive Ex where
  | normal | exit (id : Nat) | ret
  deriving DecidableEq

/-- What a loop comes to, of its body; which code is told once for all that come to it, and what that comes to. -/
structure Loops where
  lp : Code → St → (R : Type) → (Ex → St → Option R) → Option R
  on : Code → Bool
  jn : Code → St → (R : Type) → (Ex → St → Option R) → Option R
def noL : Loops := ⟨fun _ _ _ _ => none, fun _ => false, fun _ _ _ _ => none⟩

def litB (tm : List TV) (c : Operand) (b : Bool) : List TV := match c with | .tmp t => tm.set t (.val (.bool b)) | _ => tm

noncomputable def run {R : Type} (T : TypeId → Option TI) (G : Nat → Option (List PV)) (Γ : FuncId → Option Cal) (Λ : Loops) : Code → St → (Ex → St → Option R) → Option R
  | .skip, s, k => k .normal s
  | .region _ ops false, s, k => opsK T G Γ ops ops.toList s [] fun s' _ => k .normal s'
  | .region _ ops true, s, k => cond (Region.noSelect ops) (anyK T G Γ ops ops.size (Array.replicate ops.size false) s fun s' => k .normal s') none
  | .seq a b, s, k => run T G Γ Λ a s fun e s' => match e with | .normal => cond (Λ.on b) (Λ.jn b s' R k) (run T G Γ Λ b s' k) | .exit i => k (.exit i) s' | .ret => k .ret s'
  | .cond c a b, s, k =>
    match evalO G s.tm c with
    | some (.val p) => p.asB.bind fun t => cond t (run T G Γ Λ a { s with tm := litB s.tm c true } k) (run T G Γ Λ b { s with tm := litB s.tm c false } k)
    | _ => none
  | .block id c, s, k => run T G Γ Λ c s fun e s' => match e with | .normal => k .normal s' | .exit i => if i = id then k .normal s' else k (.exit i) s' | .ret => k .ret s'
  | .loop c, s, k => Λ.lp c s R k
  | .exit id, s, k => k (.exit id) s
  | .ret, s, k => k .ret s
  | _, _, _ => none

/-- One round of a loop, behind it the others: ahead of each the state is made even, and behind the last. -/
noncomputable def roundK (T : TypeId → Option TI) (G : Nat → Option (List PV)) (Γ : FuncId → Option Cal) (norm : Code → Ex → St → St) (Λ : Loops) (c : Code) (s : St) (R : Type) (k : Ex → St → Option R) : Option R :=
  run T G Γ Λ c s fun e s' => match e with
    | .normal => Λ.lp c s' R k
    | .exit i => k (.exit i) (norm c (.exit i) s')
    | .ret => k .ret (norm c .ret s')

/-- Code that is told once for all that come to it: ahead of it, and at its ends, the state is made even. -/
noncomputable def joinK (T : TypeId → Option TI) (G : Nat → Option (List PV)) (Γ : FuncId → Option Cal) (nj : Code → Option Ex → St → St) (Λ : Loops) (c : Code) (s : St) (R : Type) (k : Ex → St → Option R) : Option R :=
  run T G Γ Λ c s fun e s' => k e (nj c (some e) s')

/-- What stands behind other code. -/
def joinsOf : Code → List Code
  | .seq a b => b :: (joinsOf a ++ joinsOf b)
  | .cond _ a b => joinsOf a ++ joinsOf b
  | .block _ c => joinsOf c
  | .loop c => joinsOf c
  | _ => []

/-- The loops that stand in code. -/
def loopsOf : Code → List Code
  | .seq a b => loopsOf a ++ loopsOf b
  | .cond _ a b => loopsOf a ++ loopsOf b
  | .block _ c => loopsOf c
  | .loop c => c :: loopsOf c
  | _ => []

mutual
/-- Does a tree lead to no memory that others may have? -/
def noMem : PV → Bool
  | .bool _ => true
  | .int _ _ => true
  | .str _ => true
  | .fs _ => false
  | .os es _ => noMemEs es
  | .agg cs => noMemL cs
  | .tuple cs => noMemL cs
  | .pnil => true
  | .rp _ _ => false
  | .obj cs => noMemL cs
  | .fn _ cs => noMemL cs
  | .fnil => true
  | .mnil => true
  | .fm _ => false
  | .nilif => true
  | .err => true
  | .wint _ => true
  | .undef => true
def noMemL : List PV → Bool
  | [] => true
  | p :: ps => noMem p && noMemL ps
def noMemEs : List (List PV) → Bool
  | [] => true
  | e :: es => noMemL e && noMemEs es
end

def shOf : Option (Shp × Bool) → Shp | none => .d | some m => m.1
/-- What of some things stands where something is given back. -/
def backs {α : Type} : List (Option (Shp × Bool)) → List α → List α
  | some (_, true) :: ms, x :: xs => x :: backs ms xs
  | _ :: ms, _ :: xs => backs ms xs
  | _, _ => []

/-- What a variable of the call's own holds. -/
def cellTV (T : TypeId → Option TI) (s : St) (t : TypeId) (v : TV) : Option TV :=
  match v with
  | .ref id off =>
    match s.ob[id]? with
    | some (.box cs) => if isAggT T t then (if off + tsize T t ≤ cs.length then some (packTV ((cs.drop off).take (tsize T t))) else none) else cs[off]?
    | some (.pbox p n) => if isAggT T t then (if off = 0 ∧ tsize T t = n then some (.val p) else none) else none
    | _ => none
  | _ => none

/-- What a frame answers with. -/
def resTV (T : TypeId → Option TI) (s : St) : List ResultVar → Option (List TV)
  | [] => some []
  | .tmp t :: rs => match s.tm[t]?, resTV T s rs with | some v, some vs => some (v :: vs) | _, _ => none
  | .cell a t :: rs =>
    match s.tm[a]?, T t, resTV T s rs with
    | some v, some _, some vs => match cellTV T s t v with | some u => some (u :: vs) | none => none
    | _, _, _ => none

/-- A function's code, its slots, its results. -/
structure Fun where
  code : Code
  ntmps : Nat
  results : List ResultVar

/-- What is given back as a slice still is one of the call's own. -/
def rootsOk : List (Option (Shp × Bool)) → List TV → Bool
  | some (.s, _) :: ms, .ow _ :: vs => rootsOk ms vs
  | some (.s, _) :: _, _ => false
  | _ :: ms, _ :: vs => rootsOk ms vs
  | _, _ => true

def tupTV : List TV → TV
  | [v] => v
  | vs => .tuple vs

/-- A callee's own code, run with the caller's frame kept beside. -/
noncomputable def inlF (T : TypeId → Option TI) (G : Nat → Option (List PV)) (Γ : FuncId → Option Cal) (Λ : Loops) (f : Fun) (R : Type) (s : St) (args : List TV) (k : TV → St → Option R) : Option R :=
  run T G Γ Λ f.code ⟨args ++ List.replicate (f.ntmps - args.length) .undef, s.ob, s.tm ++ s.roots⟩ fun e s' =>
    match e with
    | .exit _ => none
    | _ => match resTV T s' f.results with
      | some vs => k (tupTV vs) ⟨s'.roots.take s.tm.length, s'.ob, s'.roots.drop s.tm.length⟩
      | none => none

/-- What is handed back at a function's end. -/
def finK (T : TypeId → Option TI) (res : Shp) (scal : Bool) (modes : List (Option (Shp × Bool))) (f : Fun) (s : St) : Option (PV × List PV) :=
  match resTV T s f.results with
  | none => none
  | some vs =>
    match expL (fun i => s.ob[i]?) (res :: (backs modes modes).map shOf) (tupTV vs :: s.roots) with
    | some (r :: outs, lent, owned) =>
      if noDup owned && lent.all (fun i => !owned.contains i) && rootsOk (backs modes modes) s.roots then
        match scal with
        | false => some (r, outs)
        | true => if noMem r && noMemL outs then some (r, outs) else none
      else none
    | _ => none

/-- A function, by its code. -/
noncomputable def funK (T : TypeId → Option TI) (G : Nat → Option (List PV)) (Γ : FuncId → Option Cal) (Λ : Loops) (res : Shp) (scal : Bool) (modes : List (Option (Shp × Bool))) (f : Fun) (ps : List PV) : Option (PV × List PV) :=
  impLK (modes.map shOf) ps 0 fun tvs obs =>
    run T G Γ Λ f.code ⟨tvs ++ List.replicate (f.ntmps - tvs.length) .undef, obs, backs modes tvs⟩ fun e s =>
      match e with
      | .exit _ => none
      | _ => finK T res scal modes f s

end Go.Proofs.YtpaifgipdhgfkaaGreatDoorV

/- The reading machine: how its values stand to the model's. -/
namespace Go.Proofs.YtpaifgipdhgfkaaGreatDoorV
open Go Go.RowKit

/-- No two entries of a map are born at one time; the map's clock is ahead of each. -/
def stamps (ms : Array MapEntry) (clock : Nat) : Prop := (∀ e ∈ ms.toList, e.born < clock) ∧ ms.toList.Pairwise (fun a b => a.born ≠ b.born)
mutual
/-- A tree is what a value leads to; all memory that it leads to lies in blocks of S. -/
def rel (w : World) (S : Nat → Prop) : PV → Value → Prop
  | .bool b, v => v = .bool b
  | .int k n, v => v = .int k n
  | .str s, v => v = .string s
  | .fs es, v => ((∃ A, v = .slice A 0 0) ∧ es = []) ∨
      ∃ b o cap sz, v = .slice (some ⟨b, o, none⟩) es.length cap ∧ es.length ≤ cap ∧ cap ≤ maxLen ∧ S b ∧ relEs w S b o sz es
  | .os _ _, _ => False
  | .agg cs, v => ∃ us, v = .agg us ∧ (∀ u ∈ us.toList, u.oneCell' = true) ∧ relL w S cs us.toList
  | .tuple cs, v => ∃ us, v = .tuple us ∧ relL w S cs us.toList
  | .pnil, v => v = .pointer none
  | .rp cs off, v => ∃ b o, v = .pointer (some ⟨b, o + off, none⟩) ∧ S b ∧ relCs w S b o cs
  | .obj _, _ => False
  | .fn f caps, v => ∃ us, v = .func f #[] us ∧ relL w S caps us.toList
  | .fnil, v => v = .nilFunc
  | .mnil, v => v = .map none
  | .fm kvs, v => ∃ b, v = .map (some b) ∧ S b ∧ ∃ ms clock, w.heap[b]? = some (.map ms clock) ∧ stamps ms clock ∧ relKV w S kvs ms.toList
  | .nilif, v => v = .nilIface
  | .err, v => ∃ t u, v = .iface t u
  | .wint k, v => ∃ n, v = .int k n
  | .undef, _ => True
def relL (w : World) (S : Nat → Prop) : List PV → List Value → Prop
  | [], us => us = []
  | p :: ps, us => ∃ u us', us = u :: us' ∧ rel w S p u ∧ relL w S ps us'
def relCs (w : World) (S : Nat → Prop) (b o : Nat) : List PV → Prop
  | [] => True
  | p :: ps => (∃ u, w.cell? ⟨b, o, none⟩ = some u ∧ u.oneCell' = true ∧ rel w S p u) ∧ relCs w S b (o + 1) ps
def relEs (w : World) (S : Nat → Prop) (b o sz : Nat) : List (List PV) → Prop
  | [] => True
  | e :: es => e.length = sz ∧ relCs w S b o e ∧ relEs w S b (o + sz) sz es
def relKV (w : World) (S : Nat → Prop) : List (PV × PV) → List MapEntry → Prop
  | [], es => es = []
  | (p, q) :: kvs, es => ∃ e es', es = e :: es' ∧ rel w S p e.key ∧ rel w S q e.val ∧ relKV w S kvs es'
end
theorem relKV_nil {w : World} {S : Nat → Prop} {es : List MapEntry} : relKV w S [] es ↔ es = [] := by simp only [relKV]
theorem relKV_cons {w : World} {S : Nat → Prop} {kv : PV × PV} {kvs : List (PV × PV)} {es : List MapEntry} : relKV w S (kv :: kvs) es ↔ ∃ e es', es = e :: es' ∧ rel w S kv.1 e.key ∧ rel w S kv.2 e.val ∧ relKV w S kvs es' := by
  obtain ⟨p, q⟩ := kv
  simp only [relKV]

/-- Where memory of the call's own lies: a row: its block, its begin, how many elements it may have, their cells, how many it has. -/
inductive Pl where
  | nil
  | at (b s cap sz len : Nat)

def Pl.blk : Pl → Option Nat | .nil => none | .at b _ _ _ _ => some b

mutual
def relTV (w : World) (S : Nat → Prop) (π : Nat → Option Pl) : TV → Value → Prop
  | .val p, v => rel w S p v
  | .nil _, v => v = .slice none 0 0
  | .ref id off, v => ∃ b s c z l, π id = some (.at b s c z l) ∧ v = .pointer (some ⟨b, s + off, none⟩)
  | .eref id i j, v => ∃ b s c z l, π id = some (.at b s c z l) ∧ v = .pointer (some ⟨b, s + i * z + j, none⟩)
  | .ow id, v => (π id = some .nil ∧ v = .slice none 0 0) ∨
      ∃ b s c z l a, π id = some (.at b s c z l) ∧ v = .slice (some a) l c ∧ (c = 0 ∨ a = ⟨b, s, none⟩)
  | .sl id off len cp, v => (π id = some .nil ∧ v = .slice none 0 0 ∧ off = 0 ∧ len = 0) ∨
      ∃ b s c z l a cv, π id = some (.at b s c z l) ∧ v = .slice (some a) len cv ∧ len ≤ cv ∧ (cv = 0 ∨ a = ⟨b, s + off * z, none⟩) ∧ off + cv ≤ c ∧ (cp = true → cv = len) ∧ off + len ≤ l
  | .vc es, v => rel w S (.fs es) v ∧ ∃ A, v = .slice A es.length es.length
  | .mp id, v => ∃ b s c z l, π id = some (.at b s c z l) ∧ v = .map (some b)
  | .it id, v => ∃ b s c z l, π id = some (.at b s c z l) ∧ v = .pointer (some ⟨b, 0, none⟩)
  | .agg cs, v => ∃ us, v = .agg us ∧ (∀ u ∈ us.toList, u.oneCell' = true) ∧ relTVs w S π cs us.toList
  | .tuple cs, v => ∃ us, v = .tuple us ∧ relTVs w S π cs us.toList
  | .fn f caps, v => ∃ us, v = .func f #[] us ∧ relTVs w S π caps us.toList
  | .undef, _ => True
def relTVs (w : World) (S : Nat → Prop) (π : Nat → Option Pl) : List TV → List Value → Prop
  | [], us => us = []
  | p :: ps, us => ∃ u us', us = u :: us' ∧ relTV w S π p u ∧ relTVs w S π ps us'
end

theorem rel_one {w : World} {S : Nat → Prop} {p : PV} {v : Value} (h : rel w S p v) (h1 : p.one = true) : v.oneCell' = true := by
  cases p <;> simp only [PV.one, Bool.false_eq_true] at h1 <;> simp only [rel] at h
  case fs => rcases h with ⟨⟨A, rfl⟩, _⟩ | ⟨b, o, cap, sz, rfl, _⟩ <;> rfl
  case rp => obtain ⟨b, o, rfl, _⟩ := h; rfl
  case fm => obtain ⟨b, rfl, _⟩ := h; rfl
  case fn => obtain ⟨us, rfl, _⟩ := h; rfl
  case err => obtain ⟨t, u, rfl⟩ := h; rfl
  case wint => obtain ⟨n, rfl⟩ := h; rfl
  all_goals (subst h; rfl)
theorem relTV_one {w : World} {S : Nat → Prop} {π : Nat → Option Pl} {t : TV} {v : Value} (h : relTV w S π t v) (h1 : t.one = true) : v.oneCell' = true := by
  cases t <;> simp only [TV.one, Bool.false_eq_true] at h1 <;> simp only [relTV] at h
  case val => exact rel_one h h1
  case nil => subst h; rfl
  case ref => obtain ⟨b, s, c, z, l, _, rfl⟩ := h; rfl
  case eref => obtain ⟨b, s, c, z, l, _, rfl⟩ := h; rfl
  case ow => rcases h with ⟨_, rfl⟩ | ⟨b, s, c, z, l, a, _, rfl, _⟩ <;> rfl
  case sl => rcases h with ⟨_, rfl, _⟩ | ⟨b, s, c, z, l, a, cv, _, rfl, _⟩ <;> rfl
  case mp => obtain ⟨b, s, c, z, l, _, rfl⟩ := h; rfl
  case vc => obtain ⟨_, A, rfl⟩ := h; rfl
  case it => obtain ⟨b, s, c, z, l, _, rfl⟩ := h; rfl
  case fn => obtain ⟨us, rfl, _⟩ := h; rfl

def oneCells (C : Array Value) : Prop := ∀ u ∈ C.toList, u.oneCell' = true
/-- No cell of the row is one that a string shares. -/
def unfrozen (C : Array Value) (fr : Nat × Nat) : Prop := fr.1 = fr.2 ∨ (False ∧ C.size ≤ fr.1)

/-- Which entries of a map are left, and which one was the last. -/
def mitOk (w : World) (S : Nat → Prop) (left : List (PV × PV)) (cur : List PV) (since : Nat) (seen : Array Nat) (last : Nat) : Option Nat → Prop
  | none => left = [] ∧ cur = []
  | some r => S r ∧ ∃ ms clock, w.heap[r]? = some (.map ms clock) ∧ stamps ms clock ∧ since = clock ∧ last = clock ∧
      relKV w S left (ms.toList.filter fun e => !seen.contains e.born) ∧ (cur = [] ∨ ∃ e ∈ ms.toList, seen.back? = some e.born ∧ relL w S cur [e.key, e.val])

def obOk (w : World) (S : Nat → Prop) (π : Nat → Option Pl) : Ob → Pl → Prop
  | .box cs, .at b s _ _ _ => s = 0 ∧ ∃ C t fr, w.heap[b]? = some (.cells C t fr) ∧ unfrozen C fr ∧ oneCells C ∧ relTVs w S π cs C.toList
  | .pbox p n, .at b s _ _ _ => s = 0 ∧ ∃ C t fr, w.heap[b]? = some (.cells C t fr) ∧ unfrozen C fr ∧ oneCells C ∧ C.size = n ∧ p.isAgg n = true ∧ rel w S p (.agg C)
  | .row es _, .nil => es = []
  | .row es sz, .at b s c z l => l = es.length ∧ z = sz ∧ l ≤ c ∧ c ≤ maxLen ∧
      ∃ C t fr, w.heap[b]? = some (.cells C t fr) ∧ unfrozen C fr ∧ oneCells C ∧ (c ≠ 0 → s + c * z ≤ C.size) ∧ relEs w S b s z es
  | .map kvs, .at b _ _ _ _ => ∃ es clock, w.heap[b]? = some (.map es clock) ∧ stamps es clock ∧ relKV w S kvs es.toList
  | .sit s pos, .at b _ _ _ _ => w.heap[b]? = some (.stringIter s pos)
  | .mit left cur, .at b _ _ _ _ => ∃ m since seen last, w.heap[b]? = some (.mapIter m since seen last) ∧ mitOk w S left cur since seen last m
  | .fro (.fs es), .nil => es = []
  | .fro (.fs es), .at b s c z l => l = es.length ∧ l ≤ c ∧ c ≤ maxLen ∧ S b ∧ relEs w S b s z es
  | .fro (.agg cs), .at b s _ _ _ => s = 0 ∧ S b ∧ relCs w S b 0 cs
  | .fro (.fm kvs), .at b _ _ _ _ => S b ∧ ∃ ms clock, w.heap[b]? = some (.map ms clock) ∧ stamps ms clock ∧ relKV w S kvs ms.toList
  | .fro _, _ => False
  | .dead, _ => True
  | _, .nil => False

/-- The blocks that are the call's own now. -/
def owned (look : Nat → Option Ob) (π : Nat → Option Pl) (b : Nat) : Prop := ∃ id o pl, look id = some o ∧ o.live = true ∧ π id = some pl ∧ pl.blk = some b

structure ObsOk (w : World) (S : Nat → Prop) (π : Nat → Option Pl) (look : Nat → Option Ob) : Prop where
  ok : ∀ id o, look id = some o → ∃ pl, π id = some pl ∧ obOk w S π o pl
  apart : ∀ i j oi oj pi pj b, look i = some oi → look j = some oj → oi.live = true → oj.live = true → π i = some pi → π j = some pj → pi.blk = some b → pj.blk = some b → i = j
  out : ∀ b, owned look π b → ¬ S b ∧ b < w.heap.size
  st : ∀ b, S b → b < w.heap.size

/-- From one world to a later one: S stays as it was. -/
structure Keep (w : World) (S : Nat → Prop) (w' : World) (S' : Nat → Prop) : Prop where
  same : ∀ b, S b → w'.heap[b]? = w.heap[b]?
  sub : ∀ b, S b → S' b

structure Step (w : World) (S O : Nat → Prop) (w' : World) (S' O' : Nat → Prop) : Prop where
  os : w'.os = w.os
  tape : w'.tape = w.tape
  output : w'.output = w.output
  size : w.heap.size ≤ w'.heap.size
  same : ∀ b, b < w.heap.size → ¬ O b → w'.heap[b]? = w.heap[b]?
  sub : ∀ b, S b → S' b
  stab : ∀ b, S' b → S b ∨ O b ∨ w.heap.size ≤ b
  own : ∀ b, O' b → O b ∨ w.heap.size ≤ b

theorem Step.refl (w : World) (S O : Nat → Prop) : Step w S O w S O := ⟨rfl, rfl, rfl, Nat.le_refl _, fun _ _ _ => rfl, fun _ h => h, fun _ h => .inl h, fun _ h => .inl h⟩

theorem Step.trans {w w1 w2 : World} {S O S1 O1 S2 O2 : Nat → Prop} (h : Step w S O w1 S1 O1) (k : Step w1 S1 O1 w2 S2 O2) : Step w S O w2 S2 O2 where
  os := k.os.trans h.os
  tape := k.tape.trans h.tape
  output := k.output.trans h.output
  size := Nat.le_trans h.size k.size
  same b hb ho := (k.same b (Nat.lt_of_lt_of_le hb h.size) (fun h1 => (h.own b h1).elim ho (fun h2 => by omega))).trans (h.same b hb ho)
  sub b hb := k.sub b (h.sub b hb)
  stab b hb := by
    rcases k.stab b hb with h1 | h1 | h1
    · exact h.stab b h1
    · exact .inr (h.own b h1)
    · exact .inr (.inr (Nat.le_trans h.size h1))
  own b hb := by
    rcases k.own b hb with h1 | h1
    · exact h.own b h1
    · exact .inr (Nat.le_trans h.size h1)

theorem cell_same {w w' : World} {b o : Nat} (h : w'.heap[b]? = w.heap[b]?) : w'.cell? ⟨b, o, none⟩ = w.cell? ⟨b, o, none⟩ := World.cell?_of_block (w := w) h

mutual
theorem rel_keep {w w' : World} {S S' : Nat → Prop} (h : Keep w S w' S') : ∀ (p : PV) (v : Value), rel w S p v → rel w' S' p v
  | .bool _, _, r => r
  | .int _ _, _, r => r
  | .str _, _, r => r
  | .fs es, v, r => by
    simp only [rel] at r ⊢
    rcases r with r | ⟨b, o, cap, sz, hv, hl, hc, hS, he⟩
    · exact .inl r
    · exact .inr ⟨b, o, cap, sz, hv, hl, hc, h.sub b hS, relEs_keep h es b o sz (h.same b hS) he⟩
  | .os _ _, _, r => by simp only [rel] at r
  | .agg cs, v, r => by
    simp only [rel] at r ⊢
    obtain ⟨us, hv, h1, hl⟩ := r
    exact ⟨us, hv, h1, relL_keep h cs _ hl⟩
  | .tuple cs, v, r => by
    simp only [rel] at r ⊢
    obtain ⟨us, hv, hl⟩ := r
    exact ⟨us, hv, relL_keep h cs _ hl⟩
  | .pnil, _, r => r
  | .rp cs off, v, r => by
    simp only [rel] at r ⊢
    obtain ⟨b, o, hv, hS, hc⟩ := r
    exact ⟨b, o, hv, h.sub b hS, relCs_keep h cs b o (h.same b hS) hc⟩
  | .obj _, _, r => by simp only [rel] at r
  | .fn f caps, v, r => by
    simp only [rel] at r ⊢
    obtain ⟨us, hv, hl⟩ := r
    exact ⟨us, hv, relL_keep h caps _ hl⟩
  | .fnil, _, r => r
  | .mnil, _, r => r
  | .fm kvs, v, r => by
    simp only [rel] at r ⊢
    obtain ⟨b, hv, hS, ms, clock, hm, hst, hkv⟩ := r
    exact ⟨b, hv, h.sub b hS, ms, clock, (h.same b hS).trans hm, hst, relKV_keep h kvs _ hkv⟩
  | .nilif, _, r => r
  | .err, _, r => r
  | .wint _, _, r => r
  | .undef, _, _ => by simp only [rel]
theorem relL_keep {w w' : World} {S S' : Nat → Prop} (h : Keep w S w' S') : ∀ (ps : List PV) (us : List Value), relL w S ps us → relL w' S' ps us
  | [], _, r => r
  | p :: ps, us, r => by
    simp only [relL] at r ⊢
    obtain ⟨u, us', hu, h1, h2⟩ := r
    exact ⟨u, us', hu, rel_keep h p u h1, relL_keep h ps us' h2⟩
theorem relCs_keep {w w' : World} {S S' : Nat → Prop} (h : Keep w S w' S') : ∀ (ps : List PV) (b o : Nat), w'.heap[b]? = w.heap[b]? → relCs w S b o ps → relCs w' S' b o ps
  | [], _, _, _, _ => by simp only [relCs]
  | p :: ps, b, o, hb, r => by
    simp only [relCs] at r ⊢
    obtain ⟨⟨u, hu, h1, hp⟩, h2⟩ := r
    exact ⟨⟨u, (cell_same hb).trans hu, h1, rel_keep h p u hp⟩, relCs_keep h ps b (o + 1) hb h2⟩
theorem relEs_keep {w w' : World} {S S' : Nat → Prop} (h : Keep w S w' S') : ∀ (es : List (List PV)) (b o sz : Nat), w'.heap[b]? = w.heap[b]? → relEs w S b o sz es → relEs w' S' b o sz es
  | [], _, _, _, _, _ => by simp only [relEs]
  | e :: es, b, o, sz, hb, r => by
    simp only [relEs] at r ⊢
    obtain ⟨h1, h2, h3⟩ := r
    exact ⟨h1, relCs_keep h e b o hb h2, relEs_keep h es b (o + sz) sz hb h3⟩
theorem relKV_keep {w w' : World} {S S' : Nat → Prop} (h : Keep w S w' S') : ∀ (kvs : List (PV × PV)) (es : List MapEntry), relKV w S kvs es → relKV w' S' kvs es
  | [], _, r => by simp only [relKV] at r ⊢; exact r
  | (p, q) :: kvs, es, r => by
    simp only [relKV] at r ⊢
    obtain ⟨e, es', he, h1, h2, h3⟩ := r
    exact ⟨e, es', he, rel_keep h p _ h1, rel_keep h q _ h2, relKV_keep h kvs es' h3⟩
end
theorem mitOk_keep {w w' : World} {S S' : Nat → Prop} (h : Keep w S w' S') {left : List (PV × PV)} {cur : List PV} {since : Nat} {seen : Array Nat} {last : Nat} : ∀ {m : Option Nat}, mitOk w S left cur since seen last m → mitOk w' S' left cur since seen last m
  | none, r => r
  | some b, r => by
    simp only [mitOk] at r ⊢
    obtain ⟨h1, ms, clock, h2, h3, h4, h5, h6, h7⟩ := r
    refine ⟨h.sub b h1, ms, clock, (h.same b h1).trans h2, h3, h4, h5, relKV_keep h _ _ h6, h7.imp id ?_⟩
    rintro ⟨e, he, hb, hc⟩
    exact ⟨e, he, hb, relL_keep h _ _ hc⟩

/-- Later places: those that there were, and more. -/
def Ext (π π' : Nat → Option Pl) : Prop := ∀ id pl, π id = some pl → π' id = some pl
theorem Ext.refl (π : Nat → Option Pl) : Ext π π := fun _ _ h => h
theorem Ext.trans {a b c : Nat → Option Pl} (h : Ext a b) (k : Ext b c) : Ext a c := fun i p hp => k i p (h i p hp)

mutual
theorem relTV_keep {w w' : World} {S S' : Nat → Prop} {π π' : Nat → Option Pl} (h : Keep w S w' S') (e : Ext π π') : ∀ (t : TV) (v : Value), relTV w S π t v → relTV w' S' π' t v
  | .val p, v, r => by simp only [relTV] at r ⊢; exact rel_keep h p v r
  | .nil _, _, r => r
  | .ref id off, v, r => by
    simp only [relTV] at r ⊢
    obtain ⟨b, s, c, z, l, hp, hv⟩ := r
    exact ⟨b, s, c, z, l, e _ _ hp, hv⟩
  | .eref id i j, v, r => by
    simp only [relTV] at r ⊢
    obtain ⟨b, s, c, z, l, hp, hv⟩ := r
    exact ⟨b, s, c, z, l, e _ _ hp, hv⟩
  | .ow id, v, r => by
    simp only [relTV] at r ⊢
    rcases r with ⟨hp, hv⟩ | ⟨b, s, c, z, l, a, hp, hv⟩
    · exact .inl ⟨e _ _ hp, hv⟩
    · exact .inr ⟨b, s, c, z, l, a, e _ _ hp, hv⟩
  | .sl id off len cp, v, r => by
    simp only [relTV] at r ⊢
    rcases r with ⟨hp, hv⟩ | ⟨b, s, c, z, l, a, cv, hp, hv⟩
    · exact .inl ⟨e _ _ hp, hv⟩
    · exact .inr ⟨b, s, c, z, l, a, cv, e _ _ hp, hv⟩
  | .vc es, v, r => by
    simp only [relTV] at r ⊢
    exact ⟨rel_keep h _ v r.1, r.2⟩
  | .mp id, v, r => by
    simp only [relTV] at r ⊢
    obtain ⟨b, s, c, z, l, hp, hv⟩ := r
    exact ⟨b, s, c, z, l, e _ _ hp, hv⟩
  | .it id, v, r => by
    simp only [relTV] at r ⊢
    obtain ⟨b, s, c, z, l, hp, hv⟩ := r
    exact ⟨b, s, c, z, l, e _ _ hp, hv⟩
  | .agg cs, v, r => by
    simp only [relTV] at r ⊢
    obtain ⟨us, hv, h1, hl⟩ := r
    exact ⟨us, hv, h1, relTVs_keep h e cs _ hl⟩
  | .tuple cs, v, r => by
    simp only [relTV] at r ⊢
    obtain ⟨us, hv, hl⟩ := r
    exact ⟨us, hv, relTVs_keep h e cs _ hl⟩
  | .fn f caps, v, r => by
    simp only [relTV] at r ⊢
    obtain ⟨us, hv, hl⟩ := r
    exact ⟨us, hv, relTVs_keep h e caps _ hl⟩
  | .undef, _, _ => by simp only [relTV]
theorem relTVs_keep {w w' : World} {S S' : Nat → Prop} {π π' : Nat → Option Pl} (h : Keep w S w' S') (e : Ext π π') : ∀ (ts : List TV) (us : List Value), relTVs w S π ts us → relTVs w' S' π' ts us
  | [], _, r => r
  | p :: ps, us, r => by
    simp only [relTVs] at r ⊢
    obtain ⟨u, us', hu, h1, h2⟩ := r
    exact ⟨u, us', hu, relTV_keep h e p u h1, relTVs_keep h e ps us' h2⟩
end

theorem obOk_keep {w w' : World} {S S' : Nat → Prop} {π π' : Nat → Option Pl} (h : Keep w S w' S') (e : Ext π π') (o : Ob) (pl : Pl)
    (hb : o.live = true → ∀ b, pl.blk = some b → w'.heap[b]? = w.heap[b]?) (r : obOk w S π o pl) : obOk w' S' π' o pl := by
  cases hlv : o.live with
  | false =>
    cases o <;> simp only [Ob.live, Bool.true_eq_false] at hlv
    · rename_i p
      cases pl <;> cases p <;> simp only [obOk] at r ⊢
      · exact r
      · obtain ⟨h1, h2, h3, h4, h5⟩ := r
        exact ⟨h1, h2, h3, h.sub _ h4, relEs_keep h _ _ _ _ (h.same _ h4) h5⟩
      · obtain ⟨h1, h4, h5⟩ := r
        exact ⟨h1, h.sub _ h4, relCs_keep h _ _ _ (h.same _ h4) h5⟩
      · obtain ⟨h4, ms, clock, h5, h6, h7⟩ := r
        exact ⟨h.sub _ h4, ms, clock, (h.same _ h4).trans h5, h6, relKV_keep h _ _ h7⟩
    · simp only [obOk]
  | true =>
  have hb := hb hlv
  cases pl with
  | nil => cases o <;> simp only [Ob.live, Bool.false_eq_true] at hlv <;> simp only [obOk] at r ⊢ <;> exact r
  | «at» b s c z l =>
    have hb' := hb b rfl
    cases o <;> simp only [Ob.live, Bool.false_eq_true] at hlv <;> simp only [obOk] at r ⊢
    case box cs =>
      obtain ⟨h0, C, t, fr, h1, h2, h3, h4⟩ := r
      exact ⟨h0, C, t, fr, hb'.trans h1, h2, h3, relTVs_keep h e _ _ h4⟩
    case pbox p n =>
      obtain ⟨h0, C, t, fr, h1, h2, h3, h4, h5, h6⟩ := r
      exact ⟨h0, C, t, fr, hb'.trans h1, h2, h3, h4, h5, rel_keep h _ _ h6⟩
    case row es sz =>
      obtain ⟨h1, h2, h3, h4, C, t, fr, h5, h6, h7, h8, h9⟩ := r
      exact ⟨h1, h2, h3, h4, C, t, fr, hb'.trans h5, h6, h7, h8, relEs_keep h _ _ _ _ hb' h9⟩
    case map kvs =>
      obtain ⟨es, clock, h1, h2, h3⟩ := r
      exact ⟨es, clock, hb'.trans h1, h2, relKV_keep h _ _ h3⟩
    case sit => exact hb'.trans r
    case mit =>
      obtain ⟨m, since, seen, last, h1, h2⟩ := r
      exact ⟨m, since, seen, last, hb'.trans h1, mitOk_keep h h2⟩

end Go.Proofs.YtpaifgipdhgfkaaGreatDoorV

/- The reading machine: lists of cells, loads and stores of the model at a block that is known. -/
namespace Go.Proofs.YtpaifgipdhgfkaaGreatDoorV
open Go Go.RowKit

section lists
variable {w : World} {S : Nat → Prop} {π : Nat → Option Pl}

theorem relL_length : ∀ {ps : List PV} {us : List Value}, relL w S ps us → ps.length = us.length
  | [], us, h => by simp only [relL] at h; simp [h]
  | p :: ps, us, h => by
    simp only [relL] at h
    obtain ⟨u, us', rfl, _, h2⟩ := h
    simp [relL_length h2]
theorem relL_get : ∀ {ps : List PV} {us : List Value}, relL w S ps us → ∀ {i : Nat} {p : PV}, ps[i]? = some p → ∃ u, us[i]? = some u ∧ rel w S p u
  | [], us, h, i, p, hp => by simp at hp
  | q :: ps, us, h, i, p, hp => by
    simp only [relL] at h
    obtain ⟨u, us', rfl, h1, h2⟩ := h
    cases i with
    | zero => simp only [List.getElem?_cons_zero, Option.some.injEq] at hp; subst hp; exact ⟨u, rfl, h1⟩
    | succ i => simpa using relL_get h2 (by simpa using hp)
theorem relL_of : ∀ {ps : List PV} {us : List Value}, ps.length = us.length → (∀ (i : Nat) (p : PV) (u : Value), ps[i]? = some p → us[i]? = some u → rel w S p u) → relL w S ps us
  | [], us, h, _ => by simp only [relL]; exact List.eq_nil_of_length_eq_zero (by simpa using h.symm)
  | p :: ps, [], h, _ => by simp at h
  | p :: ps, u :: us, h, f => by
    simp only [relL]
    exact ⟨u, us, rfl, f 0 p u rfl rfl, relL_of (by simpa using h) fun i p u hp hu => f (i + 1) p u (by simpa using hp) (by simpa using hu)⟩
theorem relL_append {ps qs : List PV} {us vs : List Value} (h : relL w S ps us) (k : relL w S qs vs) : relL w S (ps ++ qs) (us ++ vs) := by
  induction ps generalizing us with
  | nil => simp only [relL] at h; subst h; simpa using k
  | cons p ps ih =>
    simp only [relL] at h
    obtain ⟨u, us', rfl, h1, h2⟩ := h
    simp only [List.cons_append, relL]
    exact ⟨u, us' ++ vs, rfl, h1, ih h2⟩
theorem relL_take {ps : List PV} {us : List Value} (h : relL w S ps us) (n : Nat) : relL w S (ps.take n) (us.take n) := by
  refine relL_of (by simp [relL_length h]) fun i p u hp hu => ?_
  rw [List.getElem?_take] at hp hu
  split at hp
  · rename_i hi
    rw [if_pos hi] at hu
    obtain ⟨u', h1, h2⟩ := relL_get h hp
    rw [h1] at hu
    cases hu
    exact h2
  · cases hp
theorem relL_drop {ps : List PV} {us : List Value} (h : relL w S ps us) (n : Nat) : relL w S (ps.drop n) (us.drop n) := by
  refine relL_of (by simp [relL_length h]) fun i p u hp hu => ?_
  rw [List.getElem?_drop] at hp hu
  obtain ⟨u', h1, h2⟩ := relL_get h hp
  rw [h1] at hu
  cases hu
  exact h2

theorem relTVs_length : ∀ {ps : List TV} {us : List Value}, relTVs w S π ps us → ps.length = us.length
  | [], us, h => by simp only [relTVs] at h; simp [h]
  | p :: ps, us, h => by
    simp only [relTVs] at h
    obtain ⟨u, us', rfl, _, h2⟩ := h
    simp [relTVs_length h2]
theorem relTVs_get : ∀ {ps : List TV} {us : List Value}, relTVs w S π ps us → ∀ {i : Nat} {p : TV}, ps[i]? = some p → ∃ u, us[i]? = some u ∧ relTV w S π p u
  | [], us, h, i, p, hp => by simp at hp
  | q :: ps, us, h, i, p, hp => by
    simp only [relTVs] at h
    obtain ⟨u, us', rfl, h1, h2⟩ := h
    cases i with
    | zero => simp only [List.getElem?_cons_zero, Option.some.injEq] at hp; subst hp; exact ⟨u, rfl, h1⟩
    | succ i => simpa using relTVs_get h2 (by simpa using hp)
theorem relTVs_of : ∀ {ps : List TV} {us : List Value}, ps.length = us.length → (∀ (i : Nat) (p : TV) (u : Value), ps[i]? = some p → us[i]? = some u → relTV w S π p u) → relTVs w S π ps us
  | [], us, h, _ => by simp only [relTVs]; exact List.eq_nil_of_length_eq_zero (by simpa using h.symm)
  | p :: ps, [], h, _ => by simp at h
  | p :: ps, u :: us, h, f => by
    simp only [relTVs]
    exact ⟨u, us, rfl, f 0 p u rfl rfl, relTVs_of (by simpa using h) fun i p u hp hu => f (i + 1) p u (by simpa using hp) (by simpa using hu)⟩
theorem relTVs_append {ps qs : List TV} {us vs : List Value} (h : relTVs w S π ps us) (k : relTVs w S π qs vs) : relTVs w S π (ps ++ qs) (us ++ vs) := by
  induction ps generalizing us with
  | nil => simp only [relTVs] at h; subst h; simpa using k
  | cons p ps ih =>
    simp only [relTVs] at h
    obtain ⟨u, us', rfl, h1, h2⟩ := h
    simp only [List.cons_append, relTVs]
    exact ⟨u, us' ++ vs, rfl, h1, ih h2⟩
theorem relTVs_take {ps : List TV} {us : List Value} (h : relTVs w S π ps us) (n : Nat) : relTVs w S π (ps.take n) (us.take n) := by
  refine relTVs_of (by simp [relTVs_length h]) fun i p u hp hu => ?_
  rw [List.getElem?_take] at hp hu
  split at hp
  · rename_i hi
    rw [if_pos hi] at hu
    obtain ⟨u', h1, h2⟩ := relTVs_get h hp
    rw [h1] at hu
    cases hu
    exact h2
  · cases hp
theorem relTVs_drop {ps : List TV} {us : List Value} (h : relTVs w S π ps us) (n : Nat) : relTVs w S π (ps.drop n) (us.drop n) := by
  refine relTVs_of (by simp [relTVs_length h]) fun i p u hp hu => ?_
  rw [List.getElem?_drop] at hp hu
  obtain ⟨u', h1, h2⟩ := relTVs_get h hp
  rw [h1] at hu
  cases hu
  exact h2
theorem relTVs_vals {ps : List PV} {us : List Value} (h : relL w S ps us) : relTVs w S π (ps.map .val) us := by
  refine relTVs_of (by simp [relL_length h]) fun i p u hp hu => ?_
  rw [List.getElem?_map] at hp
  cases hq : ps[i]? with
  | none => rw [hq] at hp; cases hp
  | some q =>
    rw [hq] at hp
    cases hp
    obtain ⟨u', h1, h2⟩ := relL_get h hq
    rw [h1] at hu
    cases hu
    simpa only [relTV] using h2
theorem relTVs_set {ps : List TV} {us : List Value} (h : relTVs w S π ps us) (n : Nat) {p : TV} {u : Value} (hp : relTV w S π p u) : relTVs w S π (ps.set n p) (us.set n u) := by
  refine relTVs_of (by simp [relTVs_length h]) fun i q v hq hv => ?_
  rw [List.getElem?_set] at hq hv
  split at hq
  · rename_i hi
    rw [if_pos hi] at hv
    split at hq
    · split at hv
      · cases hq; cases hv; exact hp
      · cases hv
    · cases hq
  · rename_i hi
    rw [if_neg hi] at hv
    obtain ⟨u', h1, h2⟩ := relTVs_get h hq
    rw [h1] at hv
    cases hv
    exact h2
theorem relL_set {ps : List PV} {us : List Value} (h : relL w S ps us) (n : Nat) {p : PV} {u : Value} (hp : rel w S p u) : relL w S (ps.set n p) (us.set n u) := by
  refine relL_of (by simp [relL_length h]) fun i q v hq hv => ?_
  rw [List.getElem?_set] at hq hv
  split at hq
  · rename_i hi
    rw [if_pos hi] at hv
    split at hq
    · split at hv
      · cases hq; cases hv; exact hp
      · cases hv
    · cases hq
  · rename_i hi
    rw [if_neg hi] at hv
    obtain ⟨u', h1, h2⟩ := relL_get h hq
    rw [h1] at hv
    cases hv
    exact h2

theorem relCs_get : ∀ {ps : List PV} {b o : Nat}, relCs w S b o ps → ∀ {i : Nat} {p : PV}, ps[i]? = some p → ∃ u, w.cell? ⟨b, o + i, none⟩ = some u ∧ u.oneCell' = true ∧ rel w S p u
  | [], _, _, _, _, _, hp => by simp at hp
  | q :: ps, b, o, h, i, p, hp => by
    simp only [relCs] at h
    obtain ⟨⟨u, h1, h2, h3⟩, h4⟩ := h
    cases i with
    | zero => simp only [List.getElem?_cons_zero, Option.some.injEq] at hp; subst hp; exact ⟨u, h1, h2, h3⟩
    | succ i =>
      have := relCs_get h4 (i := i) (p := p) (by simpa using hp)
      rwa [show o + 1 + i = o + (i + 1) by omega] at this
theorem relCs_of : ∀ {ps : List PV} {b o : Nat}, (∀ (i : Nat) (p : PV), ps[i]? = some p → ∃ u, w.cell? ⟨b, o + i, none⟩ = some u ∧ u.oneCell' = true ∧ rel w S p u) → relCs w S b o ps
  | [], _, _, _ => by simp only [relCs]
  | q :: ps, b, o, f => by
    simp only [relCs]
    refine ⟨by simpa using f 0 q rfl, relCs_of fun i p hp => ?_⟩
    have := f (i + 1) p (by simpa using hp)
    rwa [show o + (i + 1) = o + 1 + i by omega] at this
theorem relEs_get : ∀ {es : List (List PV)} {b o sz : Nat}, relEs w S b o sz es → ∀ {i : Nat} {e : List PV}, es[i]? = some e → e.length = sz ∧ relCs w S b (o + i * sz) e
  | [], _, _, _, _, _, _, hp => by simp at hp
  | q :: es, b, o, sz, h, i, e, hp => by
    simp only [relEs] at h
    obtain ⟨h1, h2, h4⟩ := h
    cases i with
    | zero => simp only [List.getElem?_cons_zero, Option.some.injEq] at hp; subst hp; simpa using ⟨h1, h2⟩
    | succ i =>
      have := relEs_get h4 (i := i) (e := e) (by simpa using hp)
      rwa [show o + sz + i * sz = o + (i + 1) * sz by rw [Nat.add_mul]; omega] at this
theorem relEs_of : ∀ {es : List (List PV)} {b o sz : Nat}, (∀ (i : Nat) (e : List PV), es[i]? = some e → e.length = sz ∧ relCs w S b (o + i * sz) e) → relEs w S b o sz es
  | [], _, _, _, _ => by simp only [relEs]
  | q :: es, b, o, sz, f => by
    simp only [relEs]
    have h0 := f 0 q rfl
    simp only [Nat.zero_mul, Nat.add_zero] at h0
    refine ⟨h0.1, h0.2, relEs_of fun i e hp => ?_⟩
    have := f (i + 1) e (by simpa using hp)
    rwa [show o + (i + 1) * sz = o + sz + i * sz by rw [Nat.add_mul]; omega] at this
theorem relEs_drop {es : List (List PV)} {b o sz : Nat} (h : relEs w S b o sz es) (n : Nat) : relEs w S b (o + n * sz) sz (es.drop n) :=
  relEs_of fun i e he => by
    rw [List.getElem?_drop] at he
    have := relEs_get h he
    rwa [Nat.add_mul, ← Nat.add_assoc] at this
theorem relEs_take {es : List (List PV)} {b o sz : Nat} (h : relEs w S b o sz es) (n : Nat) : relEs w S b o sz (es.take n) :=
  relEs_of fun i e he => by
    rw [List.getElem?_take] at he
    split at he
    · exact relEs_get h he
    · cases he
theorem relEs_append {es fs : List (List PV)} {b o sz : Nat} (h : relEs w S b o sz es) (k : relEs w S b (o + es.length * sz) sz fs) : relEs w S b o sz (es ++ fs) :=
  relEs_of fun i e he => by
    rw [List.getElem?_append] at he
    split at he
    · exact relEs_get h he
    · rename_i hi
      have := relEs_get k he
      rw [Nat.add_assoc, ← Nat.add_mul] at this
      rwa [show es.length + (i - es.length) = i by omega] at this

/-- The cells of a row's elements, one after the other. -/
theorem relEs_flat : ∀ {es : List (List PV)} {b o sz : Nat}, relEs w S b o sz es → ∃ us : List Value, us.length = es.length * sz ∧ (∀ (j : Nat) (u : Value), us[j]? = some u → w.cell? ⟨b, o + j, none⟩ = some u) ∧ (∀ u ∈ us, u.oneCell' = true) ∧ relL w S es.flatten us
  | [], _, _, _, _ => ⟨[], by simp, by simp, by simp, by simp [relL]⟩
  | e :: es, b, o, sz, h => by
    simp only [relEs] at h
    obtain ⟨h1, h2, h3⟩ := h
    obtain ⟨us, hl, hc, ho, hr⟩ := relEs_flat h3
    have hh : ∃ vs : List Value, vs.length = e.length ∧ (∀ (j : Nat) (u : Value), vs[j]? = some u → w.cell? ⟨b, o + j, none⟩ = some u) ∧ (∀ u ∈ vs, u.oneCell' = true) ∧ relL w S e vs := by
      clear h1 h3 hl hc ho hr
      induction e generalizing o with
      | nil => exact ⟨[], by simp, by simp, by simp, by simp [relL]⟩
      | cons p ps ih =>
        simp only [relCs] at h2
        obtain ⟨⟨u, g1, g2, g3⟩, g4⟩ := h2
        obtain ⟨vs, k1, k2, k3, k4⟩ := ih (o + 1) g4
        refine ⟨u :: vs, by simp [k1], ?_, ?_, ?_⟩
        · intro j v hv
          cases j with
          | zero => simp only [List.getElem?_cons_zero, Option.some.injEq] at hv; subst hv; simpa using g1
          | succ j =>
            have := k2 j v (by simpa using hv)
            rwa [show o + 1 + j = o + (j + 1) by omega] at this
        · intro v hv
          simp only [List.mem_cons] at hv
          rcases hv with rfl | hv
          · exact g2
          · exact k3 v hv
        · simp only [relL]
          exact ⟨u, vs, rfl, g3, k4⟩
    obtain ⟨vs, g1, g2, g3, g4⟩ := hh
    refine ⟨vs ++ us, ?_, ?_, ?_, ?_⟩
    · rw [List.length_append, g1, hl, h1, List.length_cons, Nat.add_mul]; omega
    · intro j u hu
      rw [List.getElem?_append] at hu
      split at hu
      · exact g2 j u hu
      · have := hc _ u hu
        rwa [show o + sz + (j - vs.length) = o + j by omega] at this
    · intro u hu
      simp only [List.mem_append] at hu
      exact hu.elim (g3 u) (ho u)
    · simp only [List.flatten_cons]
      exact relL_append g4 hr
end lists

/-- One block has turned. -/
structure Upd (w : World) (b : Nat) (o : Obj) (w' : World) : Prop where
  os : w'.os = w.os
  tape : w'.tape = w.tape
  output : w'.output = w.output
  size : w'.heap.size = w.heap.size
  other : ∀ k, k ≠ b → w'.heap[k]? = w.heap[k]?
  here : w'.heap[b]? = some o

theorem Upd.trans {w w1 w2 : World} {b : Nat} {o o' : Obj} (h : Upd w b o w1) (k : Upd w1 b o' w2) : Upd w b o' w2 :=
  ⟨k.os.trans h.os, k.tape.trans h.tape, k.output.trans h.output, k.size.trans h.size, fun i hi => (k.other i hi).trans (h.other i hi), k.here⟩

theorem setCell_upd (w : World) (b i : Nat) (C : Array Value) (t : TypeId) (fr : Nat × Nat) (v : Value) (hg : w.heap[b]? = some (.cells C t fr)) :
    Upd w b (.cells (C.setIfInBounds i v) t fr) (w.setCell ⟨b, i, none⟩ v) := by
  refine ⟨rfl, rfl, rfl, by simp [World.setCell], ?_, ?_⟩
  · intro k hk
    simp only [World.setCell, Array.getElem?_modify]
    rw [if_neg (by omega)]
  · simp only [World.setCell, Array.getElem?_modify]
    simp [hg]

theorem unfrozen_at {w : World} {b i : Nat} {C : Array Value} {t : TypeId} {fr : Nat × Nat} (hg : w.heap[b]? = some (.cells C t fr)) (hf : unfrozen C fr) (hi : i < C.size) : w.frozen? ⟨b, i, none⟩ = false := by
  obtain ⟨lo, hh⟩ := fr
  simp only [World.frozen?, hg]
  rcases hf with h | h
  · simp only at h
    subst h
    by_cases h1 : lo ≤ i
    · have h2 : ¬ i < lo := by omega
      simp [h2]
    · simp [h1]
  · exact h.1.elim

theorem run_load_at {P : Program} {w : World} {b i : Nat} {v : Value} (h : w.cell? ⟨b, i, none⟩ = some v) : (load ⟨b, i, none⟩).run P w = .ok v w := by
  simp [h]

theorem run_store_at {P : Program} {w : World} {b i : Nat} {C : Array Value} {t : TypeId} {fr : Nat × Nat} {v : Value} (hg : w.heap[b]? = some (.cells C t fr)) (hf : unfrozen C fr) (hi : i < C.size) (hv : v.oneCell' = true) :
    (store ⟨b, i, none⟩ v).run P w = .ok () (w.setCell ⟨b, i, none⟩ v) := by
  have hc : w.cell? ⟨b, i, none⟩ = some C[i] := by rw [cell_of_row w b i C t fr hg]; simp [hi]
  rw [run_store P w _ v .plain hv]
  simp [hc, unfrozen_at hg hf hi]

theorem run_storeCells_blk {P : Program} {b : Nat} {t : TypeId} {fr : Nat × Nat} {o : Nat} : ∀ (vs : List Value) (i : Nat) (C : Array Value) (w : World), w.heap[b]? = some (.cells C t fr) → unfrozen C fr → o + i + vs.length ≤ C.size → (∀ v ∈ vs, v.oneCell' = true) →
    ∃ w' C', (storeCells ⟨b, o, none⟩ vs i).run P w = .ok () w' ∧ Upd w b (.cells C' t fr) w' ∧ C'.size = C.size ∧ C'.toList = C.toList.take (o + i) ++ vs ++ C.toList.drop (o + i + vs.length)
  | [], i, C, w, hg, _, _, _ => by
    refine ⟨w, C, by simp [storeCells], ⟨rfl, rfl, rfl, rfl, fun _ _ => rfl, hg⟩, rfl, by simp⟩
  | v :: vs, i, C, w, hg, hf, hl, h1 => by
    simp only [List.length_cons] at hl
    have hlt0 : o + i < C.size := by omega
    have hs := run_store_at (P := P) (i := o + i) (v := v) hg hf hlt0 (h1 v (by simp))
    have hu := setCell_upd w b (o + i) C t fr v hg
    obtain ⟨w', C', hr, hu', hsz, hC⟩ := run_storeCells_blk (P := P) (o := o) vs (i + 1) (C.setIfInBounds (o + i) v) _ hu.here (hf.imp id fun h => h.1.elim) (by simp; omega) (fun v hv => h1 v (by simp [hv]))
    refine ⟨w', C', ?_, hu.trans hu', by simpa using hsz, ?_⟩
    · simp only [storeCells, Addr.add_lit, Sem.run_bind, hs, Result.andThen_ok, hr]
    · rw [hC]
      simp only [Array.toList_setIfInBounds]
      have e1 : o + (i + 1) = o + i + 1 := by omega
      rw [e1, show o + i + 1 + vs.length = o + i + (v :: vs).length by simp; omega]
      have hlt : o + i < C.toList.length := by simp; omega
      rw [List.drop_set_of_lt (by simp only [List.length_cons]; omega)]
      rw [List.take_succ_eq_append_getElem (by simpa using hlt)]
      simp [List.take_set_of_le]

end Go.Proofs.YtpaifgipdhgfkaaGreatDoorV

/- The reading machine: what it takes for an operation to be told rightly; operations that touch no memory. -/
namespace Go.Proofs.YtpaifgipdhgfkaaGreatDoorV
open Go Go.RowKit

/-- A zero of the table against the model's. -/
def zOk : TV → Value → Prop
  | .val (.bool b), v => v = .bool b
  | .val (.int k n), v => v = .int k n
  | .val (.str s), v => v = .string s
  | .nil _, v => v = .slice none 0 0
  | .val .pnil, v => v = .pointer none
  | .val .mnil, v => v = .map none
  | .val .fnil, v => v = .nilFunc
  | .val .nilif, v => v = .nilIface
  | _, _ => False
def zsOk : List TV → List Value → Prop
  | [], us => us = []
  | z :: zs, us => ∃ u us', us = u :: us' ∧ zOk z u ∧ zsOk zs us'

def descOk (P : Program) (t : TypeId) : TD → Prop
  | .bool => P.underlying t = some .bool
  | .int k => P.underlying t = some (.int k)
  | .string => P.underlying t = some .string
  | .slice e => P.underlying t = some (.slice e)
  | .array n e => P.underlying t = some (.array n e)
  | .struct fs => ∃ F, P.underlying t = some (.struct F) ∧ F.toList.map (fun f => (f.type, f.offset)) = fs ∧ (∀ f ∈ F.toList, f.name ≠ "_") ∧ P.stoodInHeld t = false ∧ P.eqGuardType P.depth t = false
  | .map k e => P.underlying t = some (.map k e)
  | .ptr e => P.underlying t = some (.pointer e)
  | .func => ∃ a b c, P.underlying t = some (.func a b c)
  | .iface => ∃ ms, P.underlying t = some (.interface ms)
  | .other => ∃ d, P.underlying t = some d ∧ (∀ F, d ≠ .struct F) ∧ (∀ n e, d ≠ .array n e)

structure TyOk (P : Program) (t : TypeId) (i : TI) : Prop where
  info : ∃ f z, P.info? t = some f ∧ f.size = i.size ∧ f.bytes = i.bytes ∧ f.zero = some z ∧ z.cells.size = i.size ∧ zsOk i.zero z.cells.toList ∧
    (i.desc.isAgg = true → z = .agg z.cells) ∧ (i.desc.isAgg = false → z.cells = #[z])
  pos : 0 < i.size
  posb : 0 < i.bytes
  desc : descOk P t i.desc
  one : i.desc.isAgg = false → i.size = 1
  eqg : i.desc.isAgg = true → P.eqGuardType P.depth t = false

def TOk (P : Program) (T : TypeId → Option TI) : Prop := ∀ t i, T t = some i → TyOk P t i

theorem zOk_rel {w : World} {S : Nat → Prop} {π : Nat → Option Pl} {z : TV} {u : Value} (h : zOk z u) : relTV w S π z u ∧ u.oneCell' = true := by
  cases z with
  | val p => cases p <;> simp only [zOk] at h <;> first | exact h.elim | (subst h; exact ⟨by simp only [relTV, rel], rfl⟩)
  | nil sz => simp only [zOk] at h; subst h; exact ⟨by simp only [relTV], rfl⟩
  | _ => simp only [zOk] at h

theorem zsOk_rel {w : World} {S : Nat → Prop} {π : Nat → Option Pl} : ∀ {zs : List TV} {us : List Value}, zsOk zs us → relTVs w S π zs us ∧ ∀ u ∈ us, u.oneCell' = true
  | [], us, h => by simp only [zsOk] at h; subst h; exact ⟨by simp only [relTVs], by simp⟩
  | z :: zs, us, h => by
    simp only [zsOk] at h
    obtain ⟨u, us', rfl, h1, h2⟩ := h
    obtain ⟨r1, r2⟩ := zsOk_rel (w := w) (S := S) (π := π) h2
    obtain ⟨q1, q2⟩ := zOk_rel (w := w) (S := S) (π := π) h1
    refine ⟨by simp only [relTVs]; exact ⟨u, us', rfl, q1, r1⟩, ?_⟩
    intro v hv
    simp only [List.mem_cons] at hv
    rcases hv with rfl | hv
    · exact q2
    · exact r2 v hv

theorem descOk_agg {P : Program} {t : TypeId} {d : TD} (h : descOk P t d) :
    (d.isAgg = true → (∃ F, P.underlying t = some (.struct F)) ∨ (∃ n e, P.underlying t = some (.array n e))) ∧
    (d.isAgg = false → ∃ u, P.underlying t = some u ∧ (∀ F, u ≠ .struct F) ∧ (∀ n e, u ≠ .array n e)) := by
  cases d <;> simp only [descOk] at h <;> refine ⟨fun hh => ?_, fun hh => ?_⟩ <;> simp only [TD.isAgg, Bool.false_eq_true, Bool.true_eq_false] at hh
  case array.refine_1 => exact .inr ⟨_, _, h⟩
  case struct.refine_1 => obtain ⟨F, h, _⟩ := h; exact .inl ⟨F, h⟩
  case other.refine_2 => exact h
  case func.refine_2 => obtain ⟨a, b, c, h⟩ := h; exact ⟨_, h, by simp, by simp⟩
  case iface.refine_2 => obtain ⟨ms, h⟩ := h; exact ⟨_, h, by simp, by simp⟩
  all_goals exact ⟨_, h, by simp, by simp⟩

theorem isAggT_eq {T : TypeId → Option TI} {t : TypeId} {i : TI} (h : T t = some i) : isAggT T t = i.desc.isAgg := by
  obtain ⟨a, b, d, z⟩ := i
  unfold isAggT
  rw [h]
  cases d <;> rfl
theorem tsize_eq {T : TypeId → Option TI} {t : TypeId} {i : TI} (h : T t = some i) : tsize T t = i.size := by unfold tsize; rw [h]

theorem run_isAgg {P : Program} {t : TypeId} {i : TI} (h : TyOk P t i) (w : World) : (isAgg t).run P w = .ok i.desc.isAgg w := by
  obtain ⟨h1, h2⟩ := descOk_agg h.desc
  cases hd : i.desc.isAgg with
  | true =>
    rcases h1 hd with ⟨F, hu⟩ | ⟨n, e, hu⟩ <;> simp [isAgg, run_underlying hu]
  | false =>
    obtain ⟨u, hu, n1, n2⟩ := h2 hd
    simp only [isAgg, Sem.run_bind, run_underlying hu, Result.andThen_ok]
    cases u <;> first | rfl | exact absurd rfl (n1 _) | exact absurd rfl (n2 _ _)

theorem run_sizeOf {P : Program} {t : TypeId} {i : TI} (h : TyOk P t i) (w : World) : (sizeOf t).run P w = .ok i.size w := by
  obtain ⟨f, z, hf, hs, _⟩ := h.info
  simp [Go.sizeOf, typeInfo, hf, hs]

theorem run_zeroValue {P : Program} {t : TypeId} {i : TI} (h : TyOk P t i) : ∃ z, z.cells.size = i.size ∧ zsOk i.zero z.cells.toList ∧ (∀ w, (zeroValue t).run P w = .ok z w) ∧ (i.desc.isAgg = false → z.cells = #[z]) ∧ ∃ f, P.info? t = some f ∧ f.zero = some z ∧ f.size = i.size ∧ f.bytes = i.bytes := by
  obtain ⟨f, z, hf, hs, hb, hz, h1, h2, _, h3⟩ := h.info
  exact ⟨z, h1, h2, fun w => by simp [zeroValue, typeInfo, hf, hz], h3, f, hf, hz, hs, hb⟩

/-- A variable of one cell. -/
theorem run_loadVar_one {P : Program} {t : TypeId} {i : TI} (h : TyOk P t i) (hd : i.desc.isAgg = false) {w : World} {b o : Nat} {v : Value} (hc : w.cell? ⟨b, o, none⟩ = some v) :
    (loadVar t ⟨b, o, none⟩).run P w = .ok v w := by
  simp only [loadVar, Sem.run_bind, run_isAgg h, hd, Result.andThen_ok, Bool.false_eq_true, if_false, run_load_at hc]

theorem run_loadVar_agg {P : Program} {t : TypeId} {i : TI} (h : TyOk P t i) (hd : i.desc.isAgg = true) {w : World} {b o : Nat} (us : List Value) (hl : us.length = i.size)
    (hc : ∀ (j : Nat) (u : Value), us[j]? = some u → w.cell? ⟨b, o + j, none⟩ = some u) : (loadVar t ⟨b, o, none⟩).run P w = .ok (.agg us.toArray) w := by
  have hr := run_loadCells_list (P := P) w ⟨b, o, none⟩ us (fun j v hv => by rw [Addr.add_lit]; exact hc j v hv)
  rw [hl] at hr
  simp only [loadVar, Sem.run_bind, run_isAgg h, hd, Result.andThen_ok, if_true, run_sizeOf h, hr, Sem.run_pure]

def upLast : List (Nat × Ob) → Nat → Option Ob
  | [], _ => none
  | (i, o) :: r, id => match upLast r id with | some x => some x | none => if i = id then some o else none

/-- Memory of the call's own behind an operation. -/
def upd (look : Nat → Option Ob) (up : List (Nat × Ob)) (nx : Nat) (nw : List Ob) (id : Nat) : Option Ob :=
  match upLast up id with
  | some o => some o
  | none => if nx ≤ id ∧ id < nx + nw.length then nw[id - nx]? else look id

theorem upd_nil (look : Nat → Option Ob) (nx : Nat) : upd look [] nx [] = look := by
  funext id
  simp only [upd, upLast, List.length_nil, Nat.add_zero]
  rw [if_neg (by omega)]

def evOk (ev : Operand → Option TV) (a : Act) (w : World) (S : Nat → Prop) (π : Nat → Option Pl) : Prop := ∀ x v, ev x = some v → relTV w S π v (a.eval x)

theorem evOk_all {ev : Operand → Option TV} {a : Act} {w : World} {S : Nat → Prop} {π : Nat → Option Pl} (h : evOk ev a w S π) : ∀ {xs : List Operand} {vs : List TV}, allSome (xs.map ev) = some vs → relTVs w S π vs (xs.map a.eval)
  | [], vs, hx => by simp only [List.map_nil, allSome, Option.some.injEq] at hx; subst hx; simp only [relTVs, List.map_nil]
  | x :: xs, vs, hx => by
    simp only [List.map_cons] at hx
    cases hv : ev x with
    | none => rw [hv] at hx; simp only [allSome] at hx; cases hx
    | some v =>
      rw [hv] at hx
      simp only [allSome] at hx
      cases hr : allSome (xs.map ev) with
      | none => rw [hr] at hx; cases hx
      | some r =>
        rw [hr] at hx
        simp only [Option.some.injEq] at hx
        subst hx
        simp only [List.map_cons, relTVs]
        exact ⟨_, _, rfl, h x v hv, evOk_all h hr⟩

/-- What is behind an operation that is told rightly. -/
structure After (w : World) (S : Nat → Prop) (π : Nat → Option Pl) (look : Nat → Option Ob) (nx : Nat) (v : TV) (up : List (Nat × Ob)) (nw : List Ob) (u : Value) (w' : World) (S' : Nat → Prop) (π' : Nat → Option Pl) : Prop where
  v : relTV w' S' π' v u
  obs : ObsOk w' S' π' (upd look up nx nw)
  ext : Ext π π'
  only : ∀ id, π' id ≠ none → π id ≠ none ∨ (nx ≤ id ∧ id < nx + nw.length)
  step : Step w S (owned look π) w' S' (owned (upd look up nx nw) π')

def Free (look : Nat → Option Ob) (π : Nat → Option Pl) (nx n : Nat) : Prop := ∀ j, j < n → look (nx + j) = none ∧ π (nx + j) = none

def OpOkAt (P : Program) (look : Nat → Option Ob) (nx : Nat) (ev : Operand → Option TV) (o : Oper) (v : TV) (up : List (Nat × Ob)) (nw : List Ob) (a : Act) (w : World) (S : Nat → Prop) (π : Nat → Option Pl) : Prop :=
  evOk ev a w S π → ObsOk w S π look → Free look π nx nw.length →
    ∀ (K : Act → World → Prop) (Q : Exit → Act → World → Prop), (∀ u w' S' π', After w S π look nx v up nw u w' S' π' → K (a.put o.dst u) w') → o.wp P a w K Q
def OpOk (P : Program) (look : Nat → Option Ob) (nx : Nat) (ev : Operand → Option TV) (o : Oper) (v : TV) (up : List (Nat × Ob)) (nw : List Ob) : Prop :=
  ∀ (a : Act) (w : World) (S : Nat → Prop) (π : Nat → Option Pl), OpOkAt P look nx ev o v up nw a w S π

/-- An operation that touches no memory. -/
theorem opOk_pure {P : Program} {look : Nat → Option Ob} {nx : Nat} {ev : Operand → Option TV} {o : Oper} {v : TV}
    (h : ∀ a w S π, evOk ev a w S π → ObsOk w S π look → ∃ u, (execOp a.eval o).run P w = .ok (.value u) w ∧ relTV w S π v u) : OpOk P look nx ev o v [] [] := by
  intro a w S π hev hob _ K Q hK
  obtain ⟨u, hr, hv⟩ := h a w S π hev hob
  unfold Oper.wp
  rw [hr]
  exact hK u w S π ⟨hv, by rw [upd_nil]; exact hob, Ext.refl _, fun id h => .inl h, by rw [upd_nil]; exact Step.refl _ _ _⟩

theorem Step.keep {w w' : World} {S S' O' : Nat → Prop} {π : Nat → Option Pl} {look : Nat → Option Ob} (h : Step w S (owned look π) w' S' O') (hob : ObsOk w S π look) : Keep w S w' S' :=
  ⟨fun b hb => h.same b (hob.st b hb) (fun ho => (hob.out b ho).1 hb), h.sub⟩

theorem fixNil_rel {w : World} {S : Nat → Prop} {π : Nat → Option Pl} {T : TypeId → Option TI} {t : TypeId} {v : TV} {u : Value} (h : relTV w S π v u) : relTV w S π (fixNil T t v) u := by
  unfold fixNil
  split
  · simp only [relTV] at h
    split <;> simpa only [relTV] using h
  · exact h

theorem owned_lt {w : World} {S : Nat → Prop} {π : Nat → Option Pl} {look : Nat → Option Ob} (h : ObsOk w S π look) {id : Nat} {o : Ob} {pl : Pl} {b : Nat} (h1 : look id = some o) (h2 : o.live = true) (h3 : π id = some pl) (h4 : pl.blk = some b) : b < w.heap.size ∧ ¬ S b :=
  ⟨(h.out b ⟨id, o, pl, h1, h2, h3, h4⟩).2, (h.out b ⟨id, o, pl, h1, h2, h3, h4⟩).1⟩

/-- A new block, the call's own from now on. -/
theorem obs_new {w w' : World} {S : Nat → Prop} {π : Nat → Option Pl} {look : Nat → Option Ob} {nx : Nat} {ob : Ob} {c : Obj} (h : ObsOk w S π look) (hf : Free look π nx 1)
    (hos : w'.os = w.os) (htape : w'.tape = w.tape) (hout : w'.output = w.output) (hheap : w'.heap = w.heap.push c) (s cp z l : Nat)
    (hob : ∀ π', Ext π π' → π' nx = some (.at w.heap.size s cp z l) → Keep w S w' S → obOk w' S π' ob (.at w.heap.size s cp z l)) :
    ∃ π', ObsOk w' S π' (upd look [] nx [ob]) ∧ Ext π π' ∧ (∀ id, π' id ≠ none → π id ≠ none ∨ (nx ≤ id ∧ id < nx + 1)) ∧ π' nx = some (.at w.heap.size s cp z l) ∧
      Step w S (owned look π) w' S (owned (upd look [] nx [ob]) π') := by
  let π' := fun id => if id = nx then some (Pl.at w.heap.size s cp z l) else π id
  have hfn : look nx = none ∧ π nx = none := by simpa using hf 0 (by omega)
  have hext : Ext π π' := by
    intro id pl hp
    simp only [π']
    rw [if_neg]
    · exact hp
    · intro e; subst e; rw [hfn.2] at hp; cases hp
  have hsz : w'.heap.size = w.heap.size + 1 := by rw [hheap]; simp
  have hold : ∀ b, b < w.heap.size → w'.heap[b]? = w.heap[b]? := by
    intro b hb
    rw [hheap, Array.getElem?_push, if_neg (by omega)]
  have hkeep : Keep w S w' S := ⟨fun b hb => hold b (h.st b hb), fun _ hb => hb⟩
  have hnx : π' nx = some (.at w.heap.size s cp z l) := by simp [π']
  have hlook : ∀ id o, upd look [] nx [ob] id = some o → (id = nx ∧ o = ob) ∨ (id ≠ nx ∧ look id = some o) := by
    intro id o ho
    simp only [upd, upLast, List.length_singleton] at ho
    split at ho
    · rename_i hc
      have : id = nx := by omega
      subst this
      simp only [Nat.sub_self, List.getElem?_cons_zero, Option.some.injEq] at ho
      exact .inl ⟨rfl, ho.symm⟩
    · rename_i hc
      exact .inr ⟨by omega, ho⟩
  have hpi : ∀ id, id ≠ nx → π' id = π id := fun id hid => by simp [π', hid]
  have hown : ∀ b, owned (upd look [] nx [ob]) π' b → (owned look π b) ∨ b = w.heap.size := by
    rintro b ⟨id, o, pl, h1, h2, h3, h4⟩
    rcases hlook id o h1 with ⟨rfl, rfl⟩ | ⟨hne, hl⟩
    · rw [hnx] at h3; cases h3; simp only [Pl.blk, Option.some.injEq] at h4; exact .inr h4.symm
    · rw [hpi id hne] at h3; exact .inl ⟨id, o, pl, hl, h2, h3, h4⟩
  refine ⟨π', ⟨?_, ?_, ?_, ?_⟩, hext, ?_, hnx, ?_⟩
  · intro id o ho
    rcases hlook id o ho with ⟨rfl, rfl⟩ | ⟨hne, hl⟩
    · exact ⟨_, hnx, hob π' hext hnx hkeep⟩
    · obtain ⟨pl, hp, hk⟩ := h.ok id o hl
      refine ⟨pl, hext _ _ hp, ?_⟩
      exact obOk_keep hkeep hext _ pl (fun hv b hb => hold b (owned_lt h hl hv hp hb).1) hk
  · intro i j oi oj pi pj b h1 h2 h3 h4 h5 h6 h7 h8
    rcases hlook i oi h1 with ⟨rfl, rfl⟩ | ⟨hi, hli⟩
    · rcases hlook j oj h2 with ⟨rfl, rfl⟩ | ⟨hj, hlj⟩
      · rfl
      · rw [hnx] at h5; cases h5
        rw [hpi j hj] at h6
        simp only [Pl.blk, Option.some.injEq] at h7
        subst h7
        have := (owned_lt h hlj h4 h6 h8).1
        omega
    · rcases hlook j oj h2 with ⟨rfl, rfl⟩ | ⟨hj, hlj⟩
      · rw [hnx] at h6; cases h6
        rw [hpi i hi] at h5
        simp only [Pl.blk, Option.some.injEq] at h8
        subst h8
        have := (owned_lt h hli h3 h5 h7).1
        omega
      · rw [hpi i hi] at h5
        rw [hpi j hj] at h6
        exact h.apart i j oi oj pi pj b hli hlj h3 h4 h5 h6 h7 h8
  · intro b hb
    rcases hown b hb with h1 | h1
    · exact ⟨(h.out b h1).1, by have := (h.out b h1).2; omega⟩
    · subst h1
      exact ⟨fun hS => by have := h.st _ hS; omega, by omega⟩
  · intro b hb; have := h.st b hb; omega
  · intro id hid
    by_cases e : id = nx
    · exact .inr (by omega)
    · rw [hpi id e] at hid; exact .inl hid
  · exact ⟨hos, htape, hout, by omega, fun b hb _ => hold b hb, fun _ hb => hb, fun b hb => .inl hb, fun b hb => (hown b hb).imp id (fun e => by omega)⟩

/-- One of the call's own blocks has turned. -/
theorem obs_turn {w w' : World} {S : Nat → Prop} {π : Nat → Option Pl} {look : Nat → Option Ob} {nx : Nat} {id : Nat} {ob ob' : Ob} {c : Obj} {b s cp z l : Nat} (h : ObsOk w S π look)
    (hl : look id = some ob) (hlive : ob.live = true) (hlive' : ob'.live = true) (hp : π id = some (.at b s cp z l)) (hu : Upd w b c w')
    (hob : Keep w S w' S → obOk w' S π ob' (.at b s cp z l)) :
    ObsOk w' S π (upd look [(id, ob')] nx []) ∧ Step w S (owned look π) w' S (owned (upd look [(id, ob')] nx []) π) := by
  have hlook : ∀ i o, upd look [(id, ob')] nx [] i = some o → (i = id ∧ o = ob') ∨ (i ≠ id ∧ look i = some o) := by
    intro i o ho
    simp only [upd, upLast, List.length_nil, Nat.add_zero] at ho
    by_cases e : id = i
    · rw [if_pos e] at ho; exact .inl ⟨e.symm, by simpa using ho.symm⟩
    · rw [if_neg e] at ho
      simp only at ho
      rw [if_neg (by omega)] at ho
      exact .inr ⟨fun h => e h.symm, ho⟩
  have hin := owned_lt h hl hlive hp rfl
  have hkeep : Keep w S w' S := ⟨fun k hk => hu.other k (fun e => hin.2 (e ▸ hk)), fun _ hb => hb⟩
  have hown : ∀ k, owned (upd look [(id, ob')] nx []) π k → owned look π k := by
    rintro k ⟨i, o, pl, h1, h2, h3, h4⟩
    rcases hlook i o h1 with ⟨rfl, rfl⟩ | ⟨hne, hli⟩
    · exact ⟨i, ob, pl, hl, hlive, h3, h4⟩
    · exact ⟨i, o, pl, hli, h2, h3, h4⟩
  have hlv : ∀ i o, upd look [(id, ob')] nx [] i = some o → o.live = true → ∃ o', look i = some o' ∧ o'.live = true := by
    intro i o ho hv
    rcases hlook i o ho with ⟨rfl, rfl⟩ | ⟨_, hli⟩
    · exact ⟨ob, hl, hlive⟩
    · exact ⟨o, hli, hv⟩
  refine ⟨⟨?_, ?_, ?_, ?_⟩, ?_⟩
  · intro i o ho
    rcases hlook i o ho with ⟨rfl, rfl⟩ | ⟨hne, hli⟩
    · exact ⟨_, hp, hob hkeep⟩
    · obtain ⟨pl, hpi, hk⟩ := h.ok i o hli
      refine ⟨pl, hpi, ?_⟩
      refine obOk_keep hkeep (Ext.refl _) _ pl (fun hv k hk2 => hu.other k ?_) hk
      intro e; subst e
      exact hne (h.apart i id _ _ pl _ _ hli hl hv hlive hpi hp hk2 rfl)
  · intro i j oi oj pi pj k h1 h2 h3 h4 h5 h6 h7 h8
    obtain ⟨oi', hi', vi⟩ := hlv i oi h1 h3
    obtain ⟨oj', hj', vj⟩ := hlv j oj h2 h4
    exact h.apart i j oi' oj' pi pj k hi' hj' vi vj h5 h6 h7 h8
  · intro k hk
    have := h.out k (hown k hk)
    exact ⟨this.1, by rw [hu.size]; exact this.2⟩
  · intro k hk; rw [hu.size]; exact h.st k hk
  · refine ⟨hu.os, hu.tape, hu.output, by rw [hu.size]; exact Nat.le_refl _, ?_, fun _ hb => hb, fun b hb => .inl hb, fun k hk => .inl (hown k hk)⟩
    intro k hk hno
    refine hu.other k (fun e => hno ?_)
    subst e
    exact ⟨id, ob, _, hl, hlive, hp, rfl⟩

end Go.Proofs.YtpaifgipdhgfkaaGreatDoorV
