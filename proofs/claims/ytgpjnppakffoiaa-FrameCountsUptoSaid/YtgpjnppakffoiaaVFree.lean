/- The reading machine: operations that only reckon: what they yield hangs on no world. -/
import Derived.Test.YtgpjnppakffoiaaVRunOk
import Derived.Orders
namespace Go.Proofs.YtgpjnppakffoiaaV
open Go Go.RowKit

/-- Whoever runs it comes to the same, in any world, and leaves that as it is. -/
def Fr {α : Type} (P : Program) (m : Sem α) : Prop := ∀ w v w1, m.run P w = .ok v w1 → w1 = w ∧ ∀ w', m.run P w' = .ok v w'
/-- It comes to nothing. -/
def Nev {α : Type} (P : Program) (m : Sem α) : Prop := ∀ w v w1, m.run P w ≠ .ok v w1

section
variable {P : Program}
theorem Fr.pure {α : Type} (v : α) : Fr P (Pure.pure v : Sem α) := fun w v' w1 h => by
  simp only [Sem.run_pure, Result.ok.injEq] at h
  obtain ⟨rfl, rfl⟩ := h
  exact ⟨rfl, fun w' => by simp only [Sem.run_pure]⟩
theorem Nev.fr {α : Type} {m : Sem α} (h : Nev P m) : Fr P m := fun w v w1 e => absurd e (h w v w1)
theorem Fr.bind {α β : Type} {m : Sem α} {f : α → Sem β} (h : Fr P m) (k : ∀ v, Fr P (f v)) : Fr P (m >>= f) := fun w v w1 e => by
  rw [Sem.run_bind] at e
  cases hm : m.run P w with
  | halt x w2 => rw [hm] at e; cases e
  | ok u w2 =>
    obtain ⟨rfl, h2⟩ := h w u w2 hm
    rw [hm, Result.andThen_ok] at e
    obtain ⟨h3, h4⟩ := k u _ v w1 e
    exact ⟨h3, fun w' => by rw [Sem.run_bind, h2 w', Result.andThen_ok, h4 w']⟩
theorem Nev.bind {α β : Type} {m : Sem α} {f : α → Sem β} (k : ∀ v, Nev P (f v)) : Nev P (m >>= f) := fun w v w1 e => by
  rw [Sem.run_bind] at e
  cases hm : m.run P w with
  | halt x w2 => rw [hm] at e; cases e
  | ok u w2 => rw [hm, Result.andThen_ok] at e; exact k u _ _ _ e
theorem Nev.bind_left {α β : Type} {m : Sem α} {f : α → Sem β} (k : Nev P m) : Nev P (m >>= f) := fun w v w1 e => by
  rw [Sem.run_bind] at e
  cases hm : m.run P w with
  | halt x w2 => rw [hm] at e; cases e
  | ok u w2 => exact k _ _ _ hm
theorem Nev.halt {α : Type} (h : Halt) : Nev P (Sem.halt h : Sem α) := fun w v w1 e => by simp [Sem.run] at e
theorem Nev.stuck {α : Type} (s : String) : Nev P (stuck s : Sem α) := Nev.halt _
theorem Nev.unsupported {α : Type} (s : Unsupported) : Nev P (unsupported s : Sem α) := Nev.halt _
theorem Nev.goPanic {α : Type} (v : Value) : Nev P (goPanic v : Sem α) := Nev.halt _
theorem Nev.runtimePanic {α : Type} (e : RuntimeError) : Nev P (runtimePanic e : Sem α) := by
  unfold Go.runtimePanic
  refine Nev.bind fun p => ?_
  cases e <;> first | exact Nev.goPanic _ | (refine Nev.bind fun _ => ?_; refine Nev.bind fun _ => ?_; exact Nev.goPanic _)
theorem Nev.boundsPanic {α : Type} (k : IntKind) (x y : Int) (c : BoundsCode) : Nev P (boundsPanic k x y c : Sem α) := by
  unfold Go.boundsPanic
  simp only
  split
  · exact Nev.bind fun _ => Nev.runtimePanic _
  · exact Nev.bind fun _ => Nev.runtimePanic _
theorem Fr.program : Fr P program := fun w v w1 h => by
  simp [Go.program, Sem.run] at h
  obtain ⟨rfl, rfl⟩ := h
  exact ⟨rfl, fun w' => by simp [Go.program, Sem.run]⟩
theorem Fr.underlying (t : TypeId) : Fr P (underlying t) := by
  unfold Go.underlying
  refine Fr.program.bind fun p => ?_
  split
  · exact Fr.pure _
  · exact (Nev.stuck _).fr
theorem Fr.typeInfo (t : TypeId) : Fr P (typeInfo t) := by
  unfold Go.typeInfo
  refine Fr.program.bind fun p => ?_
  split
  · exact Fr.pure _
  · exact (Nev.stuck _).fr
theorem Fr.sizeOf (t : TypeId) : Fr P (Go.sizeOf t) := by
  unfold Go.sizeOf
  exact (Fr.typeInfo t).bind fun _ => Fr.pure _
theorem Fr.asBool (v : Value) : Fr P (asBool v) := by
  unfold Go.asBool
  split
  · exact Fr.pure _
  · exact (Nev.stuck _).fr
theorem Fr.asIntOf (v : Value) : Fr P (asIntOf v) := by
  unfold Go.asIntOf
  split
  · exact Fr.pure _
  · exact (Nev.unsupported _).fr
  · exact (Nev.stuck _).fr
theorem Fr.sureAddr (v : Value) : Fr P (Instr.sureAddr v) := by
  unfold Instr.sureAddr
  split
  · exact Fr.pure _
  · exact (Nev.stuck _).fr
theorem Fr.extract (v : Value) (i : Nat) : Fr P (Instr.extract v i) := by
  unfold Instr.extract
  split
  · split
    · exact Fr.pure _
    · exact (Nev.stuck _).fr
  · exact (Nev.stuck _).fr
theorem Fr.indexAt (t : TypeId) (x i : Value) : Fr P (Instr.indexAt t x i) := by
  unfold Instr.indexAt
  refine (Fr.asIntOf i).bind fun ki => ?_
  obtain ⟨k, i⟩ := ki
  refine (Fr.underlying t).bind fun d => ?_
  have jp : ∀ (q : Option Addr × Nat × TypeId), Fr P ((match q with
        | (base, len, elem) => do
          let __do_lift ← Go.underlying t
          have tiny : Bool := decide (len ≤ 1) && match __do_lift with | TypeDesc.array len elem => true | x => false
          match base with
            | some a =>
              if 0 ≤ i ∧ i < ↑len then do
                let __do_lift ← Go.sizeOf elem
                Pure.pure (Value.pointer (some (a.add (i.toNat * __do_lift))))
              else
                if tiny = true then Go.unsupported (Unsupported.noEntry "op/indexAddr.an index out of range at an array of length 0 or 1 (ledger 616)")
                else Go.boundsPanic k i (↑len) BoundsCode.index
            | none => Go.boundsPanic k i 0 BoundsCode.index : Sem Value)) := by
    intro q
    obtain ⟨base, len, elem⟩ := q
    refine (Fr.underlying t).bind fun d' => ?_
    cases base with
    | none => exact (Nev.boundsPanic _ _ _ _).fr
    | some a =>
      simp only
      split
      · exact (Fr.sizeOf _).bind fun _ => Fr.pure _
      · repeat' split
        all_goals first | exact (Nev.unsupported _).fr | exact (Nev.boundsPanic _ _ _ _).fr
  simp only
  split
  · refine (Fr.sureAddr _).bind fun a => ?_
    refine (Fr.pure _).bind fun q => ?_
    exact jp q
  · refine (Fr.pure _).bind fun q => ?_
    exact jp q
  · exact (Nev.bind_left (Nev.stuck _)).fr
theorem Fr.sliceBound (v : Value) (n : Nat) (c : BoundsCode) : Fr P (Instr.sliceBound v n c) := by
  unfold Instr.sliceBound
  refine (Fr.asIntOf v).bind fun ki => ?_
  obtain ⟨k, i⟩ := ki
  simp only
  split
  · exact Fr.pure _
  · exact (Nev.boundsPanic _ _ _ _).fr
theorem Fr.sliceBounds (b : Bool) (len cap : Nat) (lo hi mx : Option Value) : Fr P (Instr.sliceBounds b len cap lo hi mx) := by
  have low : ∀ (m h : Nat) (c : BoundsCode), Fr P (match lo with
      | some v => do
        let l ← Instr.sliceBound v h c
        Pure.pure (l, h, m)
      | none => do
        let l ← Pure.pure 0
        Pure.pure (l, h, m) : Sem (Nat × Nat × Nat)) := by
    intro m h c
    cases lo with
    | none => exact (Fr.pure _).bind fun _ => Fr.pure _
    | some v => exact (Fr.sliceBound _ _ _).bind fun _ => Fr.pure _
  unfold Instr.sliceBounds
  simp only
  cases mx with
  | none =>
    simp only
    refine (Fr.pure _).bind fun m => ?_
    cases hi with
    | none => exact (Fr.pure _).bind fun h => low _ _ _
    | some v => exact (Fr.sliceBound _ _ _).bind fun h => low _ _ _
  | some u =>
    simp only
    refine (Fr.sliceBound _ _ _).bind fun m => ?_
    cases hi with
    | none => exact (Nev.bind_left (Nev.stuck _)).fr
    | some v => exact (Fr.sliceBound _ _ _).bind fun h => low _ _ _
theorem Fr.intBits (op : BinOp) (k : IntKind) (a b : Int) : Fr P (Op.intBits op k a b) := by
  unfold Op.intBits
  simp only
  split <;> first | exact Fr.pure _ | exact (Nev.stuck _).fr
theorem Fr.intArith (op : BinOp) (k : IntKind) (a b : Int) : Fr P (Op.intArith op k a b) := by
  unfold Op.intArith
  split <;> first | exact Fr.pure _ | exact (Nev.stuck _).fr
theorem Fr.intDiv (op : BinOp) (k : IntKind) (a b : Int) : Fr P (Op.intDiv op k a b) := by
  unfold Op.intDiv
  split
  · exact (Nev.runtimePanic _).fr
  · split <;> first | exact Fr.pure _ | exact (Nev.stuck _).fr
theorem Fr.shift (op : BinOp) (k : IntKind) (a : Int) (yk : IntKind) (b : Int) : Fr P (Op.shift op k a yk b) := by
  unfold Op.shift
  split
  · exact (Nev.runtimePanic _).fr
  · simp only
    split <;> first | exact Fr.pure _ | exact (Nev.stuck _).fr
theorem Fr.intCmp (op : BinOp) (a b : Int) : Fr P (Op.intCmp op a b) := by
  unfold Op.intCmp
  split <;> first | exact Fr.pure _ | exact (Nev.stuck _).fr
theorem Fr.unary (op : UnOp) (v : Value) : Fr P (Op.unary op v) := by
  unfold Op.unary
  split <;> first | exact Fr.pure _ | exact (Nev.unsupported _).fr | exact (Nev.stuck _).fr | exact Fr.intArith _ _ _ _ | exact Fr.intBits _ _ _ _
theorem Fr.binInt (op : BinOp) (t : TypeId) (k k' : IntKind) (a b : Int) : Fr P (binOp op t (.int k a) (.int k' b)) := by
  cases op <;> simp only [binOp]
  all_goals first
    | exact Fr.shift _ _ _ _ _
    | (split
       · exact (Nev.stuck _).fr
       · first | exact Fr.intArith _ _ _ _ | exact Fr.intDiv _ _ _ _ | exact Fr.intBits _ _ _ _ | exact Fr.intCmp _ _ _)
theorem Fr.guardInt (op : BinOp) (t : TypeId) (x y : Operand) (k k' : IntKind) (a b : Int) : Fr P (eqGuard op t x y (.int k a) (.int k' b)) := by
  unfold eqGuard
  simp only
  split <;> exact Fr.pure _
theorem Fr.slice (t : TypeId) (x : Value) (lo hi mx : Option Value) (hd : ∀ d, P.underlying t = some d → (d = .string ∨ ∃ e, d = .slice e)) : Fr P (Instr.sliceAt t x lo hi mx) := by
  have hu : ∀ {β : Type} {f : TypeDesc → Sem β}, (∀ d, (d = .string ∨ ∃ e, d = .slice e) → Fr P (f d)) → Fr P (Go.underlying t >>= f) := by
    intro β f hf
    cases h : P.underlying t with
    | none =>
      refine (Nev.bind_left ?_).fr
      intro w v w1 e
      unfold Go.underlying at e
      rw [Sem.run_bind] at e
      simp [Go.program, Sem.run, h, Result.andThen, Go.stuck] at e
    | some d =>
      intro w v w1 e
      have hr : ∀ w, (Go.underlying t).run P w = .ok d w := fun w => by
        unfold Go.underlying
        rw [Sem.run_bind]
        simp [Go.program, Sem.run, h, Result.andThen, Sem.run_pure]
      rw [Sem.run_bind, hr, Result.andThen_ok] at e
      obtain ⟨h1, h2⟩ := hf d (hd d h) _ _ _ e
      exact ⟨h1, fun w' => by rw [Sem.run_bind, hr, Result.andThen_ok, h2]⟩
  unfold Instr.sliceAt
  refine hu fun d hd' => ?_
  have : Fr P (Instr.slice t x lo hi mx) := by
    unfold Instr.slice
    refine hu fun d hd' => ?_
    rcases hd' with rfl | ⟨e, rfl⟩
    · cases x <;> simp only
      case string s =>
        split
        · exact (Nev.bind_left (Nev.stuck _)).fr
        · exact (Fr.sliceBounds _ _ _ _ _ _).bind fun _ => Fr.pure _
      all_goals exact (Nev.stuck _).fr
    · cases x <;> simp only
      case slice a len cap => exact (Fr.sliceBounds _ _ _ _ _ _).bind fun _ => (Fr.sizeOf _).bind fun _ => Fr.pure _
      all_goals exact (Nev.stuck _).fr
  rcases hd' with rfl | ⟨e, rfl⟩ <;> exact this
/-- What runs so yields a value, whatever the world. -/
def FrV (P : Program) (m : Sem Next) : Prop := Fr P m ∧ ∀ w n w1, m.run P w = .ok n w1 → ∃ u, n = .value u
theorem FrV.v {m : Sem Value} (h : Fr P m) : FrV P (m >>= fun x => Pure.pure (Next.value x)) := by
  refine ⟨h.bind fun _ => Fr.pure _, fun w n w1 e => ?_⟩
  rw [Sem.run_bind] at e
  cases hm : m.run P w with
  | halt x w2 => rw [hm] at e; cases e
  | ok u w2 =>
    rw [hm, Result.andThen_ok, Sem.run_pure] at e
    cases e
    exact ⟨_, rfl⟩
theorem FrV.pure (u : Value) : FrV P (Pure.pure (Next.value u) : Sem Next) := ⟨Fr.pure _, fun w n w1 e => by rw [Sem.run_pure] at e; cases e; exact ⟨_, rfl⟩⟩
theorem FrV.of_run {m : Sem Next} {u : Value} (h : ∀ w, m.run P w = .ok (.value u) w) : FrV P m :=
  ⟨fun w v w1 e => (by rw [h] at e; cases e; exact ⟨rfl, h⟩), fun w n w1 e => (by rw [h] at e; cases e; exact ⟨_, rfl⟩)⟩

variable {T : TypeId → Option TI} {look : Nat → Option Ob} {nx : Nat} {ev : Operand → Option TV} {Γ : FuncId → Option Ctr}

theorem pure_fr (hT : TOk P T) {o : Oper} {v : TV} {up : List (Nat × Ob)} {nw : List Ob} {rd : List Nat} {a : Act} {w : World} {S : Nat → Prop} {π : Nat → Option Pl} (hp : pureB T o = true) (hev : evOk ev a w S π)
    (h : opK T Γ look nx ev o.op o.type ret4 = some (v, up, nw, rd)) : FrV P (execOp a.eval o) := by
  unfold pureB at hp
  split at hp
  case h_1 | h_2 => rename_i x ho; simp only [execOp, ho]; exact FrV.pure _
  case h_3 =>
    rename_i c x y ho
    simp only [execOp, ho]
    refine ⟨(Fr.asBool _).bind fun _ => Fr.pure _, fun w n w1 e => ?_⟩
    rw [Sem.run_bind] at e
    cases hm : (asBool (a.eval c)).run P w with
    | halt x w2 => rw [hm] at e; cases e
    | ok u w2 =>
      rw [hm, Result.andThen_ok, Sem.run_pure] at e
      cases e
      exact ⟨_, rfl⟩
  case h_4 => rename_i x i ho; simp only [execOp, ho]; exact FrV.v (Fr.extract _ _)
  case h_5 => rename_i t x i ho; simp only [execOp, ho]; exact FrV.v (Fr.indexAt _ _ _)
  case h_6 =>
    rename_i t x f ho
    rw [ho] at h
    simp only [opK] at h
    split at h
    · rename_i u hx
      have hv := hev x _ hx
      unfold fieldAddrK at h
      split at h
      · rename_i sz by' fs z hi
        split at h
        · rename_i ft fo hf
          split at h
          · cases h
          · rename_i hsz
            obtain ⟨F, hu, fd, hF, rfl, rfl⟩ := field_at hT hi rfl hf
            obtain ⟨i, hti, his⟩ := tsize_some hsz
            have hrun : ∀ (b o' : Nat), a.eval x = .pointer (some ⟨b, o', none⟩) → ∀ w, (execOp a.eval o).run P w = .ok (.value (.pointer (some ⟨b, o' + fd.offset, none⟩))) w := by
              intro b o' he w
              have hs := run_sizeOf (hT _ i hti) w
              have hne : i.size ≠ 0 := by omega
              simp [execOp, ho, Instr.fieldAt, run_underlying hu, hF, he, Instr.sureAddr, fieldPlace, hs, hne, Addr.add_lit]
            split at h
            · simp only [relTV] at hv
              obtain ⟨b, s, c, z, l, hp, he⟩ := hv
              exact FrV.of_run (hrun _ _ he)
            · simp only [relTV] at hv
              obtain ⟨b, s, c, z, l, hp, he⟩ := hv
              exact FrV.of_run (hrun _ _ he)
            · simp only [relTV, rel] at hv
              obtain ⟨b, o', he, _⟩ := hv
              exact FrV.of_run (hrun _ _ he)
            · cases h
        · cases h
      · cases h
    · cases h
  case h_7 =>
    rename_i t x lo hi mx ho
    simp only [execOp, ho]
    refine FrV.v (Fr.slice _ _ _ _ _ fun d hd => ?_)
    split at hp
    · rename_i hi
      have := (hT _ _ hi).desc
      simp only [descOk] at this
      rw [this] at hd; cases hd; exact .inl rfl
    · rename_i hi
      have := (hT _ _ hi).desc
      simp only [descOk] at this
      rw [this] at hd; cases hd; exact .inr ⟨_, rfl⟩
    · cases hp
  case h_8 => rename_i op t x ho; simp only [execOp, ho]; exact FrV.v (Fr.unary _ _)
  case h_9 =>
    rename_i op xt x y yt ho
    rw [ho] at h
    simp only [opK] at h
    split at hp
    case h_2 => cases hp
    rename_i sz by' ik z hi
    split at h
    · rename_i u u' hx hy
      unfold binK at h
      rw [hi] at h
      simp only at h
      have hvx := hev x _ hx
      have hvy := hev y _ hy
      have key : ∃ k a1 k' b1, a.eval x = .int k a1 ∧ a.eval y = .int k' b1 := by
        split at h
        · rename_i p q
          simp only [relTV] at hvx hvy
          split at h
          · split at h
            · obtain ⟨a1, ha, h'⟩ := bind_inv h
              obtain ⟨b1, hb, _⟩ := bind_inv h'
              cases asI_inv ha; cases asI_inv hb
              simp only [rel] at hvx hvy
              exact ⟨_, _, _, _, hvx, hvy⟩
            · cases h
          · split at h
            · obtain ⟨a1, ha, h'⟩ := bind_inv h
              obtain ⟨b1, hb, _⟩ := bind_inv h'
              cases asI_inv ha; cases asI_inv hb
              simp only [rel] at hvx hvy
              exact ⟨_, _, _, _, hvx, hvy⟩
            · cases h
          · obtain ⟨a1, ha, h'⟩ := bind_inv h
            obtain ⟨b1, hb, _⟩ := bind_inv h'
            cases asI_inv ha; cases asI_inv hb
            simp only [rel] at hvx hvy
            exact ⟨_, _, _, _, hvx, hvy⟩
        · cases h
      obtain ⟨k, a1, k', b1, e1, e2⟩ := key
      simp only [execOp, ho, e1, e2]
      exact FrV.v ((Fr.guardInt _ _ _ _ _ _ _ _).bind fun _ => Fr.binInt _ _ _ _ _ _)
    · cases h
  case h_10 => cases hp
end
end Go.Proofs.YtgpjnppakffoiaaV
