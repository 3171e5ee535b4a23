/- A world that holds what the rows list: for the witnesses. -/
import Derived.Test.YtpaifgipdhgfkaaGreatDoorCards
import Derived.Test.YtpaifgipdhgfkaaGreatDoorTie
import Derived.Test.YtpaifgipdhgfkaaGreatDoorGo
import Derived.WalkKit
import Derived.ProofKit
import Derived.OpenShut
import Derived.Deep.DeepHandedRow
import Derived.Deep.DeepWitnessRowRef
import Derived.LaidMore
import Derived.WideShapes
import Derived.JoinedCond
namespace Go.Proofs.YtpaifgipdhgfkaaGreatDoor
open Go
set_option maxRecDepth 100000
def dataCells : DataW Unit → Array Value
  | .agg ds => (ds.map fun | .lit (.int k n) => Value.int k n | _ => .bool false).toArray
  | _ => #[]
def layAt (g : Nat) (cs : Array Value) (w : World) : World := { w with heap := w.heap.modify g fun
  | .cells _ t fr => .cells cs t fr
  | o => o }
noncomputable def laidWorld (os : Os) : World := World.doorLaid Tryz.prog 72 os
theorem laid_met (os : Os) (args : Array Value) : laidMet Tryz.prog Rows.txnStepsRow.laid ((laidWorld os).forCall (fun _ _ => 0) ⟨#[], args, []⟩).memory := laidMet_of_run' 8 (by kernel_rfl) (by kernel_rfl)
theorem refs (os : Os) (args : Array Value) : ((laidWorld os).forCall (fun _ _ => 0) ⟨#[], args, []⟩).variablesRefB Tryz.prog = true := by kernel_rfl
theorem rests (os : Os) (args : Array Value) : (((laidWorld os).forCall (fun _ _ => 0) ⟨#[], args, []⟩).heap.toList.drop Tryz.prog.globals.size).take ((begin Tryz.prog (fun _ _ => 0) default).world.heap.size - Tryz.prog.globals.size) = (begin Tryz.prog (fun _ _ => 0) default).world.heap.toList.drop Tryz.prog.globals.size := by kernel_rfl
theorem laid_ok : Go.Proofs.YtpaifgipdhgfkaaGreatDoorV.LaidOk Rows.txnStepsRow.laid := by constructor <;> kernel_rfl
theorem own : ownKnob Tryz.prog.godebug = none := by kernel_rfl
theorem laidOut : laidOutB Tryz.prog = true := by kernel_rfl
end Go.Proofs.YtpaifgipdhgfkaaGreatDoor
