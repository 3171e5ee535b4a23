/- Of this claim's texts what it needs, part 7. -/
import Derived.Test.YtkeklbicmfhemaaDoorCards
import Derived.Test.YtkeklbicmfhemaaDoorTie
import Derived.WalkKit
import Derived.ProofKit
import Derived.OpenShut
import Derived.Deep.DeepHandedRow
import Derived.Deep.DeepWitnessRowRef
import Derived.LaidMore
import Derived.WideShapes
import Derived.JoinedCond
import Derived.Test.YtkeklbicmfhemaaDoorKScriptTellsRow6
namespace Go.Proofs.YtkeklbicmfhemaaDoor
open Go
set_option maxRecDepth 100000
def dataCells : DataW Unit → Array Value
  | .agg ds => (ds.map fun | .lit (.int k n) => Value.int k n | _ => .bool false).toArray
  | _ => #[]
def layAt (g : Nat) (cs : Array Value) (w : World) : World := { w with heap := w.heap.modify g fun
  | .cells _ t fr => .cells cs t fr
  | o => o }
noncomputable def laidWorld (os : Os) : World := layAt 4 (dataCells Go.Pinned.utf8First) (World.doorLaid Tryd.prog 72 os)
theorem laid_met (os : Os) (args : Array Value) : laidMet Tryd.prog Rows.scanDigitsRow.laid ((laidWorld os).forCall (fun _ _ => 0) ⟨#[], args, []⟩).memory := laidMet_of_run' 8 (by kernel_rfl) (by kernel_rfl)
theorem refs (os : Os) (args : Array Value) : ((laidWorld os).forCall (fun _ _ => 0) ⟨#[], args, []⟩).variablesRefB Tryd.prog = true := by kernel_rfl
theorem rests (os : Os) (args : Array Value) : (((laidWorld os).forCall (fun _ _ => 0) ⟨#[], args, []⟩).heap.toList.drop Tryd.prog.globals.size).take ((begin Tryd.prog (fun _ _ => 0) default).world.heap.size - Tryd.prog.globals.size) = (begin Tryd.prog (fun _ _ => 0) default).world.heap.toList.drop Tryd.prog.globals.size := by kernel_rfl
theorem laid_ok : Go.Proofs.YtkeklbicmfhemaaDoorV.LaidOk Rows.scanDigitsRow.laid := by constructor <;> kernel_rfl
theorem own : ownKnob Tryd.prog.godebug = none := by kernel_rfl
theorem laidOut : laidOutB Tryd.prog = true := by kernel_rfl
end Go.Proofs.YtkeklbicmfhemaaDoor
namespace Go.Proofs.YtkeklbicmfhemaaDoorV
open Go
def iRow (l : List Int) : List (List PV) := l.map fun n => [.int .i64 n]
def inI (n : Int) : Bool := decide (-9223372036854775808 ≤ n ∧ n < 9223372036854775808)
def unI1 : List PV → Option Int
  | [.int .i64 n] => if inI n = true then some n else none
  | _ => none
def unI : List (List PV) → Option (List Int)
  | [] => some []
  | e :: es => (unI1 e).bind fun b => (unI es).bind fun l => some (b :: l)
def sRow (l : List ByteArray) : List (List PV) := l.map fun s => [.str s]
theorem unI_inv : ∀ {es : List (List PV)} {l : List Int}, unI es = some l → es = iRow l ∧ ∀ n ∈ l, -9223372036854775808 ≤ n ∧ n < 9223372036854775808
  | [], l, h => by cases h; exact ⟨rfl, by simp⟩
  | e :: es, l, h => by
    simp only [unI, Option.bind_eq_some_iff] at h
    obtain ⟨b, h1, l', h2, h3⟩ := h
    cases h3
    obtain ⟨h4, h5⟩ := unI_inv h2
    unfold unI1 at h1
    split at h1
    · rename_i n
      split at h1
      · rename_i hn
        cases h1
        simp only [inI, decide_eq_true_eq] at hn
        subst h4
        refine ⟨rfl, fun m hm => ?_⟩
        simp only [List.mem_cons] at hm
        rcases hm with rfl | hm
        · exact hn
        · exact h5 m hm
      · cases h1
    · cases h1
theorem unI_row : ∀ {l : List Int}, (∀ n ∈ l, -9223372036854775808 ≤ n ∧ n < 9223372036854775808) → unI (iRow l) = some l
  | [], _ => rfl
  | b :: l, h => by
    have ih := unI_row (l := l) fun n hn => h n (by simp [hn])
    simp only [iRow, List.map_cons, unI] at ih ⊢
    have h1 : unI1 [.int .i64 b] = some b := by
      show (if inI b = true then some b else none) = some b
      rw [if_pos (by simpa [inI] using h b (by simp))]
    rw [h1, ih]
    rfl
theorem iRow_length (l : List Int) : (iRow l).length = l.length := by simp [iRow]
theorem sRow_length (l : List ByteArray) : (sRow l).length = l.length := by simp [sRow]
theorem idx_nat {α : Type} (es : List α) (j : Nat) : idx es (j : Int) = es[j]? := by
  unfold idx
  rw [if_pos (by omega)]
  simp
theorem idx_at {α : Type} (a : List α) (x : α) (b : List α) : idx (a ++ x :: b) (a.length : Int) = some x := by
  rw [idx_nat]; simp
theorem get_at {α : Type} (a : List α) (x : α) (b : List α) : (a ++ x :: b)[a.length]? = some x := by simp
theorem bytes_toList (s : ByteArray) : s.toList = s.data.toList := ByteArray.toList_eq s
theorem bytes_ext {a b : ByteArray} (h : a.data.toList = b.data.toList) : a = b := by
  cases a; cases b
  simp only [ByteArray.mk.injEq]
  exact Array.toList_inj.1 h
theorem str_eq (a b : ByteArray) : (a.toList == b.toList) = decide (a = b) := by
  rw [bytes_toList, bytes_toList]
  by_cases h : a = b
  · subst h; simp
  · have : a.data.toList ≠ b.data.toList := fun e => h (bytes_ext e)
    rw [decide_eq_false h]
    simpa using fun e => this (by rw [e])
end Go.Proofs.YtkeklbicmfhemaaDoorV
namespace Go.Proofs.YtkeklbicmfhemaaDoorV
open Go
theorem wrap_u8 (a : Int) : IntKind.u8.wrap a = a % 256 := by
  simp [IntKind.wrap, IntKind.bits, IntKind.signed]
theorem wrap_i64_eq (a : Int) : IntKind.i64.wrap a = if a % 18446744073709551616 ≥ 9223372036854775808 then a % 18446744073709551616 - 18446744073709551616 else a % 18446744073709551616 := by
  simp [IntKind.wrap, IntKind.bits, IntKind.signed]
theorem wrap_i64 {a : Int} (h1 : -9223372036854775808 ≤ a) (h2 : a < 9223372036854775808) : IntKind.i64.wrap a = a := by
  rw [wrap_i64_eq]
  split <;> omega
theorem wf_i64 {n : Int} (h : (Lit.int .i64 n).wf = true) : -9223372036854775808 ≤ n ∧ n < 9223372036854775808 := by
  simp [Lit.wf, IntKind.min, IntKind.max, IntKind.bits, IntKind.signed] at h
  omega
end Go.Proofs.YtkeklbicmfhemaaDoorV
