/- The reading machine: calls, operations, regions, code: definitions alone. -/
import Derived.Test.YtgpjnppakffoiaaVBase
import Derived.Orders
namespace Go.Proofs.YtgpjnppakffoiaaV
open Go

/-- Arguments, gathered: as trees; what is lent; what is given: which memory, and where it stands. -/
structure Args where
  ps : List PV
  lent : List Nat
  lins : List (TV × Shp × Bool × List Nat)

def gather (look : Nat → Option Ob) : List (Option (Shp × Bool)) → List TV → Option Args
  | [], [] => some ⟨[], [], []⟩
  | none :: ms, v :: vs =>
    match reify look 100 v, gather look ms vs with
    | some (p, ids), some a => some ⟨p :: a.ps, ids ++ a.lent, a.lins⟩
    | _, _ => none
  | some (sh, back) :: ms, v :: vs =>
    match expS look sh v, gather look ms vs with
    | some (p, l, ids), some a => some ⟨p :: a.ps, l ++ a.lent, (v, sh, back, ids) :: a.lins⟩
    | _, _ => none
  | _, _ => none

def deadAll (ids : List Nat) : List (Nat × Ob) := ids.map fun i => (i, .dead)

/-- What was given is as the callee has left it (or it is gone). -/
def outsK {R : Type} (look : Nat → Option Ob) : List (TV × Shp × Bool × List Nat) → List PV → Nat → (List (Nat × Ob) → List Ob → Option R) → Option R
  | [], _, _, k => k [] []
  | (_, _, false, ids) :: ls, outs, nx, k => outsK look ls outs nx fun up nw => k (deadAll ids ++ up) nw
  | (v, sh, true, ids) :: ls, outs, nx, k =>
    outs.head?.bind fun p =>
    match v, sh with
    | .ref id 0, .o shs => p.asObj.bind fun cs => impLK shs cs nx fun tvs obs =>
      outsK look ls outs.tail (nx + obs.length) fun up nw => k ((id, .box tvs) :: (deadAll ids.tail ++ up)) (obs ++ nw)
    | .ow id, .s =>
      match look id with
      | some (.row _ sz) => p.asOs.bind fun x => if x.2 = sz then outsK look ls outs.tail nx fun up nw => k ((id, .row x.1 sz) :: up) nw else none
      | _ => none
    | _, _ => none

def noDup : List Nat → Bool
  | [] => true
  | i :: is => !is.contains i && noDup is

def callK {R : Type} (Γ : FuncId → Option Ctr) (look : Nat → Option Ob) (nx : Nat) (g : FuncId) (args : List TV) (k : K R) : Option R :=
  match Γ g with
  | none => none
  | some c =>
    match gather look c.modes args with
    | none => none
    | some a =>
      if noDup (a.lins.flatMap (·.2.2.2)) && a.lent.all (fun i => !(a.lins.flatMap (·.2.2.2)).contains i) then
        (c.D a.ps).bind fun y => outsK look a.lins (c.E y).2 nx fun up nw => impK c.res (c.E y).1 (nx + nw.length) fun tv obs =>
          k tv (up ++ (if c.scal then [] else froAll look a.lent)) (nw ++ obs) (a.lent ++ a.lins.flatMap (·.2.2.2))
      else none

def unK {R : Type} (T : TypeId → Option TI) (op : UnOp) (xt : TypeId) (x : TV) (k : PV → Option R) : Option R :=
  match op, T xt, x with
  | .neg, some ⟨_, _, .int ik, _⟩, .val p => (p.asI ik).bind fun n => k (.int ik (ik.wrap (0 - n)))
  | .not, some ⟨_, _, .bool, _⟩, .val p => p.asB.bind fun b => k (.bool (!b))
  | _, _, _ => none

def nextK {R : Type} (look : Nat → Option Ob) (x : TV) (k : K R) : Option R :=
  match x with
  | .it id =>
    match look id with
    | some (.sit s pos) =>
      if pos < s.size then
        k (.tuple [.val (.bool true), .val (.int .i64 pos), .val (.int .i32 (Utf8.decode s pos).1)]) [(id, .sit s (pos + (Utf8.decode s pos).2))] [] [id]
      else k (.tuple [.val (.bool false)]) [] [] [id]
    | _ => none
  | _ => none

/-- A value that a variable of the call's own begins with. -/
def boxOb (T : TypeId → Option TI) (t : TypeId) (v : TV) : Option Ob :=
  if isAggT T t then
    match v with
    | .val p => if p.isAgg (tsize T t) then some (.pbox p (tsize T t)) else none
    | .agg cs => if cs.length = tsize T t then some (.box cs) else none
    | _ => none
  else if v.one then some (.box [fixNil T t v]) else none

def valsOf (l : List TV) : Option (List PV) := allSome (l.map fun c => match c with | .val p => some p | _ => none)

/-- An answer as its type says it is. -/
def resK {R : Type} (T : TypeId → Option TI) (ty : TypeId) (k : K R) : K R := fun tv up nw rd =>
  match tv with
  | .val r => coeK T ty r fun r => k (.val r) up nw rd
  | tv => k tv up nw rd

def evOpt (ev : Operand → Option TV) : Option Operand → Option (Option TV)
  | none => some none
  | some x => match ev x with | some v => some (some v) | none => none

def opK {R : Type} (T : TypeId → Option TI) (Γ : FuncId → Option Ctr) (look : Nat → Option Ob) (nx : Nat) (ev : Operand → Option TV)
    (o : Op) (ty : TypeId) (k : K R) : Option R :=
  match o with
  | .move x | .assign x => match ev x with | some v => k (fixNil T ty v) [] [] [] | none => none
  | .pick c a b =>
    match ev c, ev a, ev b with
    | some (.val p), some u, some v => p.asB.bind fun t => cond t (k u [] [] []) (k v [] [] [])
    | _, _, _ => none
  | .alloc t => match T t with | some i => k (.ref nx 0) [] [.box i.zero] [] | none => none
  | .box t x => match ev x, T t with
    | some v, some _ => match boxOb T t v with | some ob => k (.ref nx 0) [] [ob] [] | none => none
    | _, _ => none
  | .load t a => match ev a, T t with | some v, some _ => loadK T look t v k | _, _ => none
  | .store t a x => match ev a, ev x, T t with | some v, some u, some _ => storeK T look t v (fixNil T t u) k | _, _, _ => none
  | .nilCheck x =>
    match ev x with
    | some (.ref i j) => k (.ref i j) [] [] []
    | some (.eref i j m) => k (.eref i j m) [] [] []
    | some (.val (.rp cs off)) => k (.val (.rp cs off)) [] [] []
    | some (.val (.fn (.func f) cs)) => k (.val (.fn (.func f) cs)) [] [] []
    | some (.fn (.func f) cs) => k (.fn (.func f) cs) [] [] []
    | _ => none
  | .binOp op xt x y yt => match ev x, ev y with | some u, some v => binK T op xt yt u v fun p => k (.val p) [] [] [] | _, _ => none
  | .unOp op xt x => match ev x with | some u => unK T op xt u fun p => k (.val p) [] [] [] | none => none
  | .convert src dst x => match ev x with | some u => convertK T look nx src dst u k | none => none
  | .makeFunc fn first caps =>
    match first.toList, allSome (caps.toList.map ev) with
    | [], some vs => match valsOf vs with | some ps => k (.val (.fn fn ps)) [] [] [] | none => k (.fn fn vs) [] [] []
    | _, _ => none
  | .makeMap _ none => k (.mp nx) [] [.map []] []
  | .makeSlice t l c => match ev l, ev c with | some u, some v => makeSliceK T nx t u v k | _, _ => none
  | .slice t x lo hi mx =>
    match ev x, evOpt ev lo, evOpt ev hi, evOpt ev mx with
    | some u, some l, some h, some m => sliceK T look t u l h m k
    | _, _, _, _ => none
  | .fieldAddr t x f => match ev x with | some u => fieldAddrK T t u f k | none => none
  | .field t x f => match ev x with | some u => fieldK T t u f k | none => none
  | .indexAddr t x i => match ev x, ev i with | some u, some v => indexAddrK T look t u v k | _, _ => none
  | .index t x i => match ev x, ev i with | some u, some v => indexK T t u v k | _, _ => none
  | .lookup t x i ok => match ev x, ev i with | some u, some v => lookupK T look t u v ok k | _, _ => none
  | .mapUpdate t m i x => match ev m, ev i, ev x with | some u, some v, some z => mapUpdateK T look t u v z k | _, _, _ => none
  | .build t parts => buildK T t (parts.toList.map fun x => (x.1, ev x.2)) k
  | .buildSlice t n parts => buildSliceK T nx t n (parts.toList.map fun x => (x.1, ev x.2)) k
  | .range t x =>
    match T t, ev x with
    | some ⟨_, _, .string, _⟩, some (.val p) => p.asS.bind fun s => k (.it nx) [] [.sit s 0] []
    | _, _ => none
  | .next x true => match ev x with | some u => nextK look u k | none => none
  | .extract x i =>
    match ev x with
    | some (.tuple vs) => match vs[i]? with | some v => k v [] [] [] | none => none
    | some (.val p) => (p.proj i).bind fun c => coeK T ty c fun c => k (.val c) [] [] []
    | _ => none
  | .call c =>
    match c.callee, allSome (c.args.toList.map ev), c.argTypes.toList with
    | .builtin .len, some [x], t :: _ => lenK T look t x k
    | .builtin .append, some [x, y], t :: u :: _ => appendK T look nx t u x y k
    | .builtin .min, some [.val p, .val q], t :: _ =>
      match T t with
      | some ⟨_, _, .int ik, _⟩ => (p.asI ik).bind fun a => (q.asI ik).bind fun b => k (.val (.int ik (if b < a then b else a))) [] [] []
      | _ => none
    | .builtin .max, some [.val p, .val q], t :: _ =>
      match T t with
      | some ⟨_, _, .int ik, _⟩ => (p.asI ik).bind fun a => (q.asI ik).bind fun b => k (.val (.int ik (if a < b then b else a))) [] [] []
      | _ => none
    | .value f, some args, _ =>
      match ev f with
      | some (.val (.fn (.func g) caps)) => callK Γ look nx g (args ++ caps.map .val) (resK T ty k)
      | some (.fn (.func g) caps) => callK Γ look nx g (args ++ caps) (resK T ty k)
      | _ => none
    | _, _, _ => none
  | _ => none

/-- A frame: its slots, the memory of the call's own, what the caller has lent. -/
structure St where
  tm : List TV
  ob : List Ob
  roots : List TV
  deriving Inhabited

def setOb (ob : List Ob) : List (Nat × Ob) → List Ob
  | [] => ob
  | (i, o) :: r => setOb (ob.set i o) r

def St.put (s : St) (d : Option Nat) (v : TV) (up : List (Nat × Ob)) (nw : List Ob) : St :=
  { s with tm := (match d with | some d => s.tm.set d v | none => s.tm), ob := setOb s.ob up ++ nw }

structure Foot where
  rd : List Nat
  wr : List Nat

def Foot.free (a b : Foot) : Bool := a.wr.all (fun i => !b.rd.contains i && !b.wr.contains i) && b.wr.all fun i => !a.rd.contains i

/-- An operand, as it is now. -/
def evS (G : Nat → Option (List PV)) (s : St) (x : Operand) : Option TV := match evalO G s.tm x with | some v => some (nrm (fun i => s.ob[i]?) v) | none => none

/-- One operation, and what follows. -/
def stepK {R : Type} (T : TypeId → Option TI) (G : Nat → Option (List PV)) (Γ : FuncId → Option Ctr) (o : Oper) (s : St) (k : St → Foot → Option R) : Option R :=
  opK T Γ (fun i => s.ob[i]?) s.ob.length (evS G s) o.op o.type fun v up nw rd => cond (up.all fun x => decide (x.1 < s.ob.length)) (k (s.put o.dst v up nw) ⟨rd, up.map (·.1)⟩) none

def skipOp (o : Oper) (s : St) : St := s.put o.dst (.tuple []) [] []

/-- The operations of a region, in the text's order. -/
def opsK {R : Type} (T : TypeId → Option TI) (G : Nat → Option (List PV)) (Γ : FuncId → Option Ctr) (ops : Array Oper) : List Oper → St → List Foot → (St → List Foot → Option R) → Option R
  | [], s, fs, k => k s fs
  | o :: rest, s, fs, k =>
    match o.guard with
    | none => stepK T G Γ o s fun s' f => opsK T G Γ ops rest s' (fs ++ [f]) k
    | some (j, want) =>
      match (ops[j]?).bind (·.dst) with
      | some d =>
        match s.tm[d]? with
        | some (.val p) => p.asB.bind fun b =>
          cond b
            (cond want (stepK T G Γ o { s with tm := s.tm.set d (.val (.bool true)) } fun s' f => opsK T G Γ ops rest s' (fs ++ [f]) k)
              (opsK T G Γ ops rest (skipOp o { s with tm := s.tm.set d (.val (.bool true)) }) (fs ++ [⟨[], []⟩]) k))
            (cond want (opsK T G Γ ops rest (skipOp o { s with tm := s.tm.set d (.val (.bool false)) }) (fs ++ [⟨[], []⟩]) k)
              (stepK T G Γ o { s with tm := s.tm.set d (.val (.bool false)) } fun s' f => opsK T G Γ ops rest s' (fs ++ [f]) k))
        | some (.tuple []) => opsK T G Γ ops rest (skipOp o s) (fs ++ [⟨[], []⟩]) k
        | _ => none
      | none => none

/-- Which operations stand ahead of one in every order. -/
def ahead (ops : List Oper) : List (List Nat) :=
  ops.foldl (fun acc o => acc ++ [(o.after.toList.filter (Region.binds .any)).flatMap fun e => e.on :: acc.getD e.on []]) []

/-- Whatever order is picked, it comes to the same. -/
def anyOrder (ops : List Oper) (fs : List Foot) : Bool :=
  let ah := ahead ops
  (List.range fs.length).all fun j => (List.range j).all fun i => (ah.getD j []).contains i || (fs.getD i ⟨[], []⟩).free (fs.getD j ⟨[], []⟩)

/-- Operations that only reckon. -/
def pureB (T : TypeId → Option TI) (o : Oper) : Bool :=
  match o.op with
  | .move _ => true
  | .assign _ => true
  | .pick _ _ _ => true
  | .extract _ _ => true
  | .indexAddr _ _ _ => true
  | .fieldAddr _ _ _ => true
  | .slice t _ _ _ _ => match T t with | some ⟨_, _, .string, _⟩ => true | some ⟨_, _, .slice _, _⟩ => true | _ => false
  | .unOp _ _ _ => true
  | .binOp _ xt _ _ _ => match T xt with | some ⟨_, _, .int _, _⟩ => true | _ => false
  | _ => false
/-- An operation of a region that stands behind a test, or not. -/
def gK {R : Type} (T : TypeId → Option TI) (G : Nat → Option (List PV)) (Γ : FuncId → Option Ctr) (ops : Array Oper) (o : Oper) (s : St) (k : St → Option R) : Option R :=
  match o.guard with
  | none => stepK T G Γ o s fun s' _ => k s'
  | some (j, want) =>
    match (ops[j]?).bind (·.dst) with
    | some d =>
      match s.tm[d]? with
      | some (.val p) => p.asB.bind fun b =>
        cond b
          (cond want (stepK T G Γ o { s with tm := s.tm.set d (.val (.bool true)) } fun s' _ => k s')
            (k (skipOp o { s with tm := s.tm.set d (.val (.bool true)) })))
          (cond want (k (skipOp o { s with tm := s.tm.set d (.val (.bool false)) }))
            (stepK T G Γ o { s with tm := s.tm.set d (.val (.bool false)) } fun s' _ => k s'))
      | some (.tuple []) => k (skipOp o s)
      | _ => none
    | none => none

/-- What all of some come to (none, if they are unlike). -/
noncomputable def meet {R : Type} (x y : Option R) : Option R := by
  classical exact if x = y then x else none
noncomputable def meetAll {R : Type} : List (Option R) → Option R
  | [] => none
  | [x] => x
  | x :: y :: l => meet x (meetAll (y :: l))

/-- The operations of a region in whatever order: those that only reckon first; of the others whichever may come. -/
noncomputable def anyK {R : Type} (T : TypeId → Option TI) (G : Nat → Option (List PV)) (Γ : FuncId → Option Ctr) (ops : Array Oper) : Nat → Array Bool → St → (St → Option R) → Option R
  | 0, listed, s, k => cond (Region.ready .any ops listed).isEmpty (k s) none
  | n + 1, listed, s, k =>
    match Region.ready .any ops listed with
    | [] => k s
    | i :: is =>
      match (i :: is).find? fun i => Region.free .any ops listed i && (match ops[i]? with | some o => pureB T o | none => false) with
      | some i => match ops[i]? with | some o => gK T G Γ ops o s fun s' => anyK T G Γ ops n (listed.setIfInBounds i true) s' k | none => none
      | none => meetAll ((i :: is).map fun i => match ops[i]? with | some o => gK T G Γ ops o s fun s' => anyK T G Γ ops n (listed.setIfInBounds i true) s' k | none => none)

inductive Ex where
  | normal | exit (id : Nat) | ret
  deriving DecidableEq

/-- What a loop comes to: of its body. -/
abbrev Loops := Code → St → (R : Type) → (Ex → St → Option R) → Option R

def litB (tm : List TV) (c : Operand) (b : Bool) : List TV := match c with | .tmp t => tm.set t (.val (.bool b)) | _ => tm

noncomputable def run {R : Type} (T : TypeId → Option TI) (G : Nat → Option (List PV)) (Γ : FuncId → Option Ctr) (Λ : Loops) : Code → St → (Ex → St → Option R) → Option R
  | .skip, s, k => k .normal s
  | .region _ ops false, s, k => opsK T G Γ ops ops.toList s [] fun s' _ => k .normal s'
  | .region _ ops true, s, k => cond (Region.noSelect ops) (anyK T G Γ ops ops.size (Array.replicate ops.size false) s fun s' => k .normal s') none
  | .seq a b, s, k => run T G Γ Λ a s fun e s' => match e with | .normal => run T G Γ Λ b s' k | .exit i => k (.exit i) s' | .ret => k .ret s'
  | .cond c a b, s, k =>
    match evalO G s.tm c with
    | some (.val p) => p.asB.bind fun t => cond t (run T G Γ Λ a { s with tm := litB s.tm c true } k) (run T G Γ Λ b { s with tm := litB s.tm c false } k)
    | _ => none
  | .block id c, s, k => run T G Γ Λ c s fun e s' => match e with | .normal => k .normal s' | .exit i => if i = id then k .normal s' else k (.exit i) s' | .ret => k .ret s'
  | .loop c, s, k => Λ c s R k
  | .exit id, s, k => k (.exit id) s
  | .ret, s, k => k .ret s
  | _, _, _ => none

/-- One round of a loop, behind it the others: ahead of each the state is made even, and behind the last. -/
noncomputable def roundK (T : TypeId → Option TI) (G : Nat → Option (List PV)) (Γ : FuncId → Option Ctr) (norm : Code → Ex → St → St) (Λ : Loops) (c : Code) (s : St) (R : Type) (k : Ex → St → Option R) : Option R :=
  run T G Γ Λ c s fun e s' => match e with
    | .normal => Λ c s' R k
    | .exit i => k (.exit i) (norm c (.exit i) s')
    | .ret => k .ret (norm c .ret s')

/-- The loops that stand in code. -/
def loopsOf : Code → List Code
  | .seq a b => loopsOf a ++ loopsOf b
  | .cond _ a b => loopsOf a ++ loopsOf b
  | .block _ c => loopsOf c
  | .loop c => c :: loopsOf c
  | _ => []

mutual
/-- Does a tree lead to no memory that others may have? -/
def noMem : PV → Bool
  | .bool _ => true
  | .int _ _ => true
  | .str _ => true
  | .fs _ => false
  | .os es _ => noMemEs es
  | .agg cs => noMemL cs
  | .tuple cs => noMemL cs
  | .pnil => true
  | .rp _ _ => false
  | .obj cs => noMemL cs
  | .fn _ cs => noMemL cs
  | .fnil => true
  | .mnil => true
  | .undef => true
def noMemL : List PV → Bool
  | [] => true
  | p :: ps => noMem p && noMemL ps
def noMemEs : List (List PV) → Bool
  | [] => true
  | e :: es => noMemL e && noMemEs es
end

def shOf : Option (Shp × Bool) → Shp | none => .d | some m => m.1
/-- What of some things stands where something is given back. -/
def backs {α : Type} : List (Option (Shp × Bool)) → List α → List α
  | some (_, true) :: ms, x :: xs => x :: backs ms xs
  | _ :: ms, _ :: xs => backs ms xs
  | _, _ => []

/-- What a variable of the call's own holds. -/
def cellTV (T : TypeId → Option TI) (s : St) (t : TypeId) (v : TV) : Option TV :=
  match v with
  | .ref id off =>
    match s.ob[id]? with
    | some (.box cs) => if isAggT T t then (if off + tsize T t ≤ cs.length then some (packTV ((cs.drop off).take (tsize T t))) else none) else cs[off]?
    | some (.pbox p n) => if isAggT T t then (if off = 0 ∧ tsize T t = n then some (.val p) else none) else none
    | _ => none
  | _ => none

/-- What a frame answers with. -/
def resTV (T : TypeId → Option TI) (s : St) : List ResultVar → Option (List TV)
  | [] => some []
  | .tmp t :: rs => match s.tm[t]?, resTV T s rs with | some v, some vs => some (v :: vs) | _, _ => none
  | .cell a t :: rs =>
    match s.tm[a]?, T t, resTV T s rs with
    | some v, some _, some vs => match cellTV T s t v with | some u => some (u :: vs) | none => none
    | _, _, _ => none

/-- A function's code, its slots, its results. -/
structure Fun where
  code : Code
  ntmps : Nat
  results : List ResultVar

/-- What is given back as a slice still is one of the call's own. -/
def rootsOk : List (Option (Shp × Bool)) → List TV → Bool
  | some (.s, _) :: ms, .ow _ :: vs => rootsOk ms vs
  | some (.s, _) :: _, _ => false
  | _ :: ms, _ :: vs => rootsOk ms vs
  | _, _ => true

def tupTV : List TV → TV
  | [v] => v
  | vs => .tuple vs

/-- What is handed back at a function's end. -/
def finK (T : TypeId → Option TI) (res : Shp) (scal : Bool) (modes : List (Option (Shp × Bool))) (f : Fun) (s : St) : Option (PV × List PV) :=
  match resTV T s f.results with
  | none => none
  | some vs =>
    match expL (fun i => s.ob[i]?) (res :: (backs modes modes).map shOf) (tupTV vs :: s.roots) with
    | some (r :: outs, lent, owned) =>
      if noDup owned && lent.all (fun i => !owned.contains i) && rootsOk (backs modes modes) s.roots then
        match scal with
        | false => some (r, outs)
        | true => if noMem r && noMemL outs then some (r, outs) else none
      else none
    | _ => none

/-- A function, by its code. -/
noncomputable def funK (T : TypeId → Option TI) (G : Nat → Option (List PV)) (Γ : FuncId → Option Ctr) (Λ : Loops) (res : Shp) (scal : Bool) (modes : List (Option (Shp × Bool))) (f : Fun) (ps : List PV) : Option (PV × List PV) :=
  impLK (modes.map shOf) ps 0 fun tvs obs =>
    run T G Γ Λ f.code ⟨tvs ++ List.replicate (f.ntmps - tvs.length) .undef, obs, backs modes tvs⟩ fun e s =>
      match e with
      | .exit _ => none
      | _ => finK T res scal modes f s

end Go.Proofs.YtgpjnppakffoiaaV
