/-
  DERIVED. GIVEN WITH THE SEED: THE CARDS: each row of YtkeklbicmfhemabGreatDoorRows.lean that lists a variable, with what it lists TIED to the program's text (the seventh form; the later family's looks); each row that meets fmt, with fmt's text TOLD by the authors' own Lean function (tested against real Go, not proved from fmt's source: count such statements apart). THE CARD IS WHAT COUNTS. Prove the row's statement (the work); the ties are given (YtkeklbicmfhemabGreatDoorTie.lean); close each card by the builder's one call (the guide's Derived/Test/ToyasCard.lean, 'card_holds'). Laid BY PROGRAM, IN A SANDBOX (cutbox-door.mjs). By AI agents, Wed Nov 11 2026. No macro, syntax, notation, axiom, sorry.
-/
import Derived.Test.YtkeklbicmfhemabGreatDoorRows
import GoSem.ClaimSeven
namespace Go.Proofs.YtkeklbicmfhemabGreatDoor
namespace Rows

/-- THE TIED CARD OF 'draymanlaw03.InstBack'. -/
def instBackCard : Claim7 := { stood := { row := instBackRow, standIns := [], harness := (true, "0d313f0c262f1092b48c83fb218894a3b38854b4383c4cff47a8b96c8120a0e1"), looks := true }, kinds := [], alts := [], laidByText := true, laidKinds := [.data, .data, .data, .data, .sentinel, .sentinel, .pinned], laidTests := true, laidLooks := .later }
def InstBackCardSaid : Prop := Claim7.holds Tryz.pinned (.plain (OpenSpec.ofChange instBackSpec)) instBackCard

/-- THE SECOND FORM's CARD OF 'draymanlaw03.InstBack'. -/
def instBackUptoCard : Claim7 := { stood := { row := instBackUptoRow, standIns := [], harness := (true, "0d313f0c262f1092b48c83fb218894a3b38854b4383c4cff47a8b96c8120a0e1"), looks := true }, kinds := [], alts := [], laidByText := true, laidKinds := [.data, .data, .data, .data, .sentinel, .sentinel, .pinned], laidTests := true, laidLooks := .later }
def InstBackUptoCardSaid : Prop := Claim7.holds Tryz.pinned (.plain (OpenSpec.upto instBackSpec)) instBackUptoCard
end Rows
end Go.Proofs.YtkeklbicmfhemabGreatDoor
