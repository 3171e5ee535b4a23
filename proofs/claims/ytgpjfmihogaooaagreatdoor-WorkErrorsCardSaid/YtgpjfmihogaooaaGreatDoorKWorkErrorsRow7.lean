/- Of this claim's texts what it needs, part 7. -/
import Derived.Test.YtgpjfmihogaooaaGreatDoorCards
import Derived.Test.YtgpjfmihogaooaaGreatDoorTie
import Derived.WalkKit
import Derived.ProofKit
import Derived.OpenShut
import Derived.Deep.DeepHandedRow
import Derived.Deep.DeepWitnessRowRef
import Derived.LaidMore
import Derived.WideShapes
import Derived.JoinedCond
import Derived.Test.YtgpjfmihogaooaaGreatDoorKWorkErrorsRow6
namespace Go.Proofs.YtgpjfmihogaooaaGreatDoor
open Go
set_option maxRecDepth 100000
noncomputable def laidWorld (os:Os):World:=World.doorLaid Tryz.prog 72 os
theorem laid_met (os:Os) (args:Array Value):laidMet Tryz.prog Rows.workErrorsRow.laid ((laidWorld os).forCall (fun _ _=>0) ⟨#[],args,[]⟩).memory:=laidMet_of_run' 8 (by kernel_rfl) (by kernel_rfl)
theorem refs (os:Os) (args:Array Value):((laidWorld os).forCall (fun _ _=>0) ⟨#[],args,[]⟩).variablesRefB Tryz.prog=true:=by kernel_rfl
theorem rests (os:Os) (args:Array Value):(((laidWorld os).forCall (fun _ _=>0) ⟨#[],args,[]⟩).heap.toList.drop Tryz.prog.globals.size).take ((begin Tryz.prog (fun _ _=>0) default).world.heap.size - Tryz.prog.globals.size)=(begin Tryz.prog (fun _ _=>0) default).world.heap.toList.drop Tryz.prog.globals.size:=by kernel_rfl
theorem laid_ok:Go.Proofs.YtgpjfmihogaooaaGreatDoorV.LaidOk Rows.workErrorsRow.laid:=by constructor <;> kernel_rfl
theorem own:ownKnob Tryz.prog.godebug=none:=by kernel_rfl
theorem laidOut:laidOutB Tryz.prog=true:=by kernel_rfl
end Go.Proofs.YtgpjfmihogaooaaGreatDoor
namespace Go.Proofs.YtgpjfmihogaooaaGreatDoorV
open Go
theorem wrap_i64_eq (a:Int):IntKind.i64.wrap a=if a % 18446744073709551616 ≥ 9223372036854775808 then a % 18446744073709551616 - 18446744073709551616 else a % 18446744073709551616:=by
 simp [IntKind.wrap,IntKind.bits,IntKind.signed]
theorem wrap_i64 {a:Int} (h1 : -9223372036854775808≤a) (h2:a < 9223372036854775808):IntKind.i64.wrap a=a:=by
 rw [wrap_i64_eq]
 split <;> omega
end Go.Proofs.YtgpjfmihogaooaaGreatDoorV
namespace Go.Proofs.YtgpjfmihogaooaaGreatDoorV
open Go
def inI (n:Int):Bool:=decide (-9223372036854775808≤n∧n < 9223372036854775808)
end Go.Proofs.YtgpjfmihogaooaaGreatDoorV
