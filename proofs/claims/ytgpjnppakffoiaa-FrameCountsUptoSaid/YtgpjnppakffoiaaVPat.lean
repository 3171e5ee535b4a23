/- The reading machine: states by their shape: what stands at their leaves. -/
import Derived.Test.YtgpjnppakffoiaaVNorm
namespace Go.Proofs.YtgpjnppakffoiaaV
open Go

inductive Leaf where
  | int (n : Int) | bool (b : Bool) | str (s : ByteArray) | rows (es : List (List PV)) | pv (p : PV) | cells (cs : List PV) | kvs (l : List (PV × PV)) | nat (n : Nat)
  deriving Inhabited

inductive PP where
  | int (k : IntKind) | bool | str | fs | os (sz : Nat) | agg (ps : List PP) | aggx | tuple (ps : List PP) | obj (ps : List PP)
  | rp (off : Nat) | any | pnil | fnil | mnil | undef | fn (g : FuncId) (ps : List PP)

inductive TP where
  | val (p : PP) | nil (sz : Nat) | ref (id off : Nat) | eref (id j : Nat) | ow (id : Nat) | sl (id : Nat) (cp : Bool) | vc | mp (id : Nat) | it (id : Nat)
  | agg (ts : List TP) | tuple (ts : List TP) | fn (g : FuncId) (ts : List TP) | undef

inductive OP where
  | box (ts : List TP) | pbox (p : PP) (n : Nat) | row (sz : Nat) | map | sit | fro (p : PP) | dead

structure SP where
  tm : List TP
  ob : List OP
  roots : List TP

mutual
def matchPV : PP → PV → Option (List Leaf)
  | .int k, .int k' n => cond (decide (k' = k)) (some [.int n]) none
  | .bool, .bool b => some [.bool b]
  | .str, .str s => some [.str s]
  | .fs, .fs es => some [.rows es]
  | .os sz, .os es sz' => cond (sz == sz') (some [.rows es]) none
  | .agg ps, .agg cs => matchPVs ps cs
  | .aggx, .agg cs => some [.cells cs]
  | .tuple ps, .tuple cs => matchPVs ps cs
  | .obj ps, .obj cs => matchPVs ps cs
  | .rp off, .rp cs off' => cond (off == off') (some [.cells cs]) none
  | .any, p => some [.pv p]
  | .pnil, .pnil => some []
  | .fnil, .fnil => some []
  | .mnil, .mnil => some []
  | .undef, .undef => some []
  | .fn g ps, .fn (.func g') cs => cond (g == g') (matchPVs ps cs) none
  | _, _ => none
def matchPVs : List PP → List PV → Option (List Leaf)
  | [], [] => some []
  | p :: ps, c :: cs => match matchPV p c, matchPVs ps cs with | some a, some b => some (a ++ b) | _, _ => none
  | _, _ => none
end

mutual
def buildPV : PP → List Leaf → PV × List Leaf
  | .int k, .int n :: l => (.int k n, l)
  | .bool, .bool b :: l => (.bool b, l)
  | .str, .str s :: l => (.str s, l)
  | .fs, .rows es :: l => (.fs es, l)
  | .os sz, .rows es :: l => (.os es sz, l)
  | .agg ps, l => ((.agg (buildPVs ps l).1), (buildPVs ps l).2)
  | .aggx, .cells cs :: l => (.agg cs, l)
  | .tuple ps, l => ((.tuple (buildPVs ps l).1), (buildPVs ps l).2)
  | .obj ps, l => ((.obj (buildPVs ps l).1), (buildPVs ps l).2)
  | .rp off, .cells cs :: l => (.rp cs off, l)
  | .any, .pv p :: l => (p, l)
  | .pnil, l => (.pnil, l)
  | .fnil, l => (.fnil, l)
  | .mnil, l => (.mnil, l)
  | .undef, l => (.undef, l)
  | .fn g ps, l => ((.fn (.func g) (buildPVs ps l).1), (buildPVs ps l).2)
  | _, l => (.undef, l)
def buildPVs : List PP → List Leaf → List PV × List Leaf
  | [], l => ([], l)
  | p :: ps, l => ((buildPV p l).1 :: (buildPVs ps (buildPV p l).2).1, (buildPVs ps (buildPV p l).2).2)
end

mutual
def matchTV : TP → TV → Option (List Leaf)
  | .val p, .val c => matchPV p c
  | .nil sz, .nil sz' => cond (sz == sz') (some []) none
  | .ref id off, .ref id' off' => cond (id == id' && off == off') (some []) none
  | .eref id j, .eref id' i j' => cond (id == id' && j == j') (some [.nat i]) none
  | .ow id, .ow id' => cond (id == id') (some []) none
  | .sl id cp, .sl id' off len cp' => cond (id == id' && cp == cp') (some [.nat off, .nat len]) none
  | .vc, .vc es => some [.rows es]
  | .mp id, .mp id' => cond (id == id') (some []) none
  | .it id, .it id' => cond (id == id') (some []) none
  | .agg ts, .agg vs => matchTVs ts vs
  | .tuple ts, .tuple vs => matchTVs ts vs
  | .fn g ts, .fn (.func g') vs => cond (g == g') (matchTVs ts vs) none
  | .undef, .undef => some []
  | _, _ => none
def matchTVs : List TP → List TV → Option (List Leaf)
  | [], [] => some []
  | p :: ps, c :: cs => match matchTV p c, matchTVs ps cs with | some a, some b => some (a ++ b) | _, _ => none
  | _, _ => none
end

mutual
def buildTV : TP → List Leaf → TV × List Leaf
  | .val p, l => (.val (buildPV p l).1, (buildPV p l).2)
  | .nil sz, l => (.nil sz, l)
  | .ref id off, l => (.ref id off, l)
  | .eref id j, .nat i :: l => (.eref id i j, l)
  | .ow id, l => (.ow id, l)
  | .sl id cp, .nat off :: .nat len :: l => (.sl id off len cp, l)
  | .vc, .rows es :: l => (.vc es, l)
  | .mp id, l => (.mp id, l)
  | .it id, l => (.it id, l)
  | .agg ts, l => (.agg (buildTVs ts l).1, (buildTVs ts l).2)
  | .tuple ts, l => (.tuple (buildTVs ts l).1, (buildTVs ts l).2)
  | .fn g ts, l => (.fn (.func g) (buildTVs ts l).1, (buildTVs ts l).2)
  | .undef, l => (.undef, l)
  | _, l => (.undef, l)
def buildTVs : List TP → List Leaf → List TV × List Leaf
  | [], l => ([], l)
  | p :: ps, l => ((buildTV p l).1 :: (buildTVs ps (buildTV p l).2).1, (buildTVs ps (buildTV p l).2).2)
end

def matchOb : OP → Ob → Option (List Leaf)
  | .box ts, .box vs => matchTVs ts vs
  | .pbox p n, .pbox c n' => cond (n == n') (matchPV p c) none
  | .row sz, .row es sz' => cond (sz == sz') (some [.rows es]) none
  | .map, .map l => some [.kvs l]
  | .sit, .sit s pos => some [.str s, .nat pos]
  | .fro p, .fro c => matchPV p c
  | .dead, .dead => some []
  | _, _ => none
def matchObs : List OP → List Ob → Option (List Leaf)
  | [], [] => some []
  | p :: ps, c :: cs => match matchOb p c, matchObs ps cs with | some a, some b => some (a ++ b) | _, _ => none
  | _, _ => none
def buildOb : OP → List Leaf → Ob × List Leaf
  | .box ts, l => (.box (buildTVs ts l).1, (buildTVs ts l).2)
  | .pbox p n, l => (.pbox (buildPV p l).1 n, (buildPV p l).2)
  | .row sz, .rows es :: l => (.row es sz, l)
  | .map, .kvs kv :: l => (.map kv, l)
  | .sit, .str s :: .nat pos :: l => (.sit s pos, l)
  | .fro p, l => (.fro (buildPV p l).1, (buildPV p l).2)
  | .dead, l => (.dead, l)
  | _, l => (.dead, l)
def buildObs : List OP → List Leaf → List Ob × List Leaf
  | [], l => ([], l)
  | p :: ps, l => ((buildOb p l).1 :: (buildObs ps (buildOb p l).2).1, (buildObs ps (buildOb p l).2).2)

def matchSt (p : SP) (s : St) : Option (List Leaf) :=
  match matchTVs p.tm s.tm, matchObs p.ob s.ob, matchTVs p.roots s.roots with
  | some a, some b, some c => some (a ++ (b ++ c))
  | _, _, _ => none
def buildSt (p : SP) (l : List Leaf) : St :=
  ⟨(buildTVs p.tm l).1, (buildObs p.ob (buildTVs p.tm l).2).1, (buildTVs p.roots (buildObs p.ob (buildTVs p.tm l).2).2).1⟩

/-- A list that has mostly one thing in it. -/
def sparse {α : Type} (d : α) : List (Nat × α) → Nat → Nat → List α
  | _, _, 0 => []
  | (j, x) :: l, i, n + 1 => cond (i == j) (x :: sparse d l (i + 1) n) (d :: sparse d ((j, x) :: l) (i + 1) n)
  | [], i, n + 1 => d :: sparse d [] (i + 1) n

/-- Loops by shapes: what stands at the leaves of the state ahead of a round tells what the loop comes to. -/
def patL (norm : Code → Ex → St → St) (pat : Nat → Option SP) (L : Nat → Nat → List Leaf → (R : Type) → (Ex → St → Option R) → Option R) (n : Nat) : Loops := fun c s R k =>
  match pat (keyOf c) with
  | some p => match matchSt p (norm c .normal s) with | some ls => L n (keyOf c) ls R k | none => none
  | none => none

theorem cond_some {α : Type} {b : Bool} {x : Option α} {r : α} (h : cond b x none = some r) : b = true ∧ x = some r := by
  cases b <;> simp_all

mutual
theorem matchPV_ok : ∀ {p : PP} {v : PV} {ls : List Leaf}, matchPV p v = some ls → ∀ l, buildPV p (ls ++ l) = (v, l)
  | p, v, ls, h, l => by
    unfold matchPV at h
    split at h <;> try (first | (obtain ⟨h1, h2⟩ := cond_some h; simp only [decide_eq_true_eq, beq_iff_eq] at h1; subst h1) | skip)
    case h_2 | h_3 | h_4 | h_7 | h_11 | h_12 | h_13 | h_14 | h_15 => cases h; simp [buildPV]
    case h_1 | h_5 | h_10 => cases h2; simp [buildPV]
    case h_6 | h_8 | h_9 => have := matchPVs_ok h l; simp [buildPV, this]
    case h_16 => have := matchPVs_ok h2 l; simp [buildPV, this]
    case h_17 => cases h
theorem matchPVs_ok : ∀ {p : List PP} {v : List PV} {ls : List Leaf}, matchPVs p v = some ls → ∀ l, buildPVs p (ls ++ l) = (v, l)
  | [], [], _, h, l => by cases h; simp [buildPVs]
  | [], _ :: _, _, h, l => by simp [matchPVs] at h
  | _ :: _, [], _, h, l => by simp [matchPVs] at h
  | p :: ps, v :: vs, ls, h, l => by
    simp only [matchPVs] at h
    split at h
    · rename_i a b h1 h2
      cases h
      simp [buildPVs, matchPV_ok h1, matchPVs_ok h2, List.append_assoc]
    · cases h
end

mutual
theorem matchTV_ok : ∀ {p : TP} {v : TV} {ls : List Leaf}, matchTV p v = some ls → ∀ l, buildTV p (ls ++ l) = (v, l)
  | p, v, ls, h, l => by
    unfold matchTV at h
    split at h <;> try (first | (obtain ⟨h1, h2⟩ := cond_some h; simp only [Bool.and_eq_true, beq_iff_eq] at h1) | skip)
    case h_1 => have := matchPV_ok h l; simp [buildTV, this]
    case h_2 => cases h2; subst h1; simp [buildTV]
    case h_3 => cases h2; obtain ⟨rfl, rfl⟩ := h1; simp [buildTV]
    case h_4 => cases h2; obtain ⟨rfl, rfl⟩ := h1; simp [buildTV]
    case h_5 => cases h2; subst h1; simp [buildTV]
    case h_6 => cases h2; obtain ⟨rfl, rfl⟩ := h1; simp [buildTV]
    case h_7 => cases h; simp [buildTV]
    case h_8 => cases h2; subst h1; simp [buildTV]
    case h_9 => cases h2; subst h1; simp [buildTV]
    case h_10 => have := matchTVs_ok h l; simp [buildTV, this]
    case h_11 => have := matchTVs_ok h l; simp [buildTV, this]
    case h_12 => subst h1; have := matchTVs_ok h2 l; simp [buildTV, this]
    case h_13 => cases h; simp [buildTV]
    case h_14 => cases h
theorem matchTVs_ok : ∀ {p : List TP} {v : List TV} {ls : List Leaf}, matchTVs p v = some ls → ∀ l, buildTVs p (ls ++ l) = (v, l)
  | [], [], _, h, l => by cases h; simp [buildTVs]
  | [], _ :: _, _, h, l => by simp [matchTVs] at h
  | _ :: _, [], _, h, l => by simp [matchTVs] at h
  | p :: ps, v :: vs, ls, h, l => by
    simp only [matchTVs] at h
    split at h
    · rename_i a b h1 h2
      cases h
      simp [buildTVs, matchTV_ok h1, matchTVs_ok h2, List.append_assoc]
    · cases h
end

theorem matchOb_ok {p : OP} {v : Ob} {ls : List Leaf} (h : matchOb p v = some ls) (l : List Leaf) : buildOb p (ls ++ l) = (v, l) := by
  unfold matchOb at h
  split at h <;> try (first | (obtain ⟨h1, h2⟩ := cond_some h; simp only [beq_iff_eq] at h1; subst h1) | skip)
  case h_1 => have := matchTVs_ok h l; simp [buildOb, this]
  case h_2 => have := matchPV_ok h2 l; simp [buildOb, this]
  case h_3 => cases h2; simp [buildOb]
  case h_4 => cases h; simp [buildOb]
  case h_5 => cases h; simp [buildOb]
  case h_6 => have := matchPV_ok h l; simp [buildOb, this]
  case h_7 => cases h; simp [buildOb]
  case h_8 => cases h
theorem matchObs_ok : ∀ {p : List OP} {v : List Ob} {ls : List Leaf}, matchObs p v = some ls → ∀ l, buildObs p (ls ++ l) = (v, l)
  | [], [], _, h, l => by cases h; simp [buildObs]
  | [], _ :: _, _, h, l => by simp [matchObs] at h
  | _ :: _, [], _, h, l => by simp [matchObs] at h
  | p :: ps, v :: vs, ls, h, l => by
    simp only [matchObs] at h
    split at h
    · rename_i a b h1 h2
      cases h
      simp [buildObs, matchOb_ok h1, matchObs_ok h2, List.append_assoc]
    · cases h
theorem matchSt_ok {p : SP} {s : St} {ls : List Leaf} (h : matchSt p s = some ls) : buildSt p ls = s := by
  unfold matchSt at h
  split at h
  · rename_i a b c h1 h2 h3
    cases h
    have h3' := matchTVs_ok h3 []
    rw [List.append_nil] at h3'
    simp [buildSt, matchTVs_ok h1, matchObs_ok h2, h3']
  · cases h

/-- A function whose loops are told by shapes. -/
theorem fun_pat {P : Program} {T : TypeId → Option TI} {G : Nat → Option (List PV)} {Γ : FuncId → Option Ctr} (hm : P.follows .mixedOrders = true) (hT : TOk P T) (hΓ : ∀ g c, Γ g = some c → Holds P G g c) {f : FuncId} {fn : Func} {c : Ctr} {F : Fun} (hf : P.funcs[f]? = some fn) (hb : fn.body = some F.code) (hnt : fn.ntmps = F.ntmps) (hrs : fn.results.toList = F.results) (hname : (fn.name == "runtime.NumGoroutine") = false)
    {norm : Code → Ex → St → St} (hnorm : NormOk G norm) {pat : Nat → Option SP} {L : Nat → Nat → List Leaf → (R : Type) → (Ex → St → Option R) → Option R}
    (h0 : ∀ c ∈ loopsOf F.code, ∀ ls R k, L 0 (keyOf c) ls R k = none)
    (hs : ∀ c ∈ loopsOf F.code, ∀ p, pat (keyOf c) = some p → ∀ n ls R k r, L (n + 1) (keyOf c) ls R k = some r → roundK T G Γ norm (patL norm pat L n) c (buildSt p ls) R k = some r)
    (hF : ∀ ps x, c.F ps = some x → ∃ n, funK T G Γ (patL norm pat L n) c.res c.scal c.modes F ps = some x) : Holds P G f c := by
  refine fun_ok hm hT hΓ hf hb hnt hrs hname fun ps x hx => ?_
  obtain ⟨n, hn⟩ := hF ps x hx
  refine ⟨_, loops_fix (Λ := patL norm pat L) hm hT hΓ hnorm (fun c hc s R k r h => ?_) (fun n c hc s R k r h => ?_) n, hn⟩
  · simp only [patL] at h
    split at h
    · split at h
      · rw [h0 c hc] at h; cases h
      · cases h
    · cases h
  · simp only [patL] at h
    split at h
    · rename_i p hp
      split at h
      · rename_i ls hls
        have := hs c hc p hp n ls R k r h
        rwa [matchSt_ok hls] at this
      · cases h
    · cases h

/-- Contracts by their functions' numbers. -/
def ctrOf : List (Nat × Ctr) → FuncId → Option Ctr
  | [], _ => none
  | (i, c) :: l, f => if i = f then some c else ctrOf l f
def HoldsAll (P : Program) (G : Nat → Option (List PV)) : List (Nat × Ctr) → Prop
  | [] => True
  | (i, c) :: l => Holds P G i c ∧ HoldsAll P G l
theorem ctrOf_ok {P : Program} {G : Nat → Option (List PV)} : ∀ {l : List (Nat × Ctr)}, HoldsAll P G l → ∀ g c, ctrOf l g = some c → Holds P G g c
  | [], _, _, _, h => by simp [ctrOf] at h
  | (i, d) :: l, hl, g, c, h => by
    simp only [ctrOf] at h
    split at h
    · rename_i e; cases h; rw [← e]; exact hl.1
    · exact ctrOf_ok hl.2 g c h

/-- A part of code: 0 and 1 are the parts of two, 0 the one part of one. -/
def codeAt : List Nat → Code → Code
  | [], c => c
  | 0 :: l, .seq a _ => codeAt l a
  | _ :: l, .seq _ b => codeAt l b
  | 0 :: l, .cond _ a _ => codeAt l a
  | _ :: l, .cond _ _ b => codeAt l b
  | _ :: l, .block _ c => codeAt l c
  | _ :: l, .loop c => codeAt l c
  | _, c => c

def bodyOf (f : Func) : Code := match f.body with | some c => c | none => .skip
def funOf (f : Func) : Fun := ⟨bodyOf f, f.ntmps, f.results.toList⟩
def G0 : Nat → Option (List PV) := fun _ => none

end Go.Proofs.YtgpjnppakffoiaaV
