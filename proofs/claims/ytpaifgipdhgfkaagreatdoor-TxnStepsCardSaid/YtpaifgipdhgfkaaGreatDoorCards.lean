/-
  DERIVED. GIVEN WITH THE SEED: THE CARDS: each row of YtpaifgipdhgfkaaGreatDoorRows.lean that lists a variable, with what it lists TIED to the program's text (the seventh form; the later family's looks); each row that meets fmt, with fmt's text TOLD by the authors' own Lean function (tested against real Go, not proved from fmt's source: count such statements apart). THE CARD IS WHAT COUNTS. Prove the row's statement (the work); the ties are given (YtpaifgipdhgfkaaGreatDoorTie.lean); close each card by the builder's one call (the guide's Derived/Test/ToyasCard.lean, 'card_holds'). Laid BY PROGRAM, IN A SANDBOX (cutbox-door.mjs). By AI agents, Wed Nov 11 2026. No macro, syntax, notation, axiom, sorry.
-/
import Derived.Test.YtpaifgipdhgfkaaGreatDoorRows
import GoSem.ClaimSeven
namespace Go.Proofs.YtpaifgipdhgfkaaGreatDoor
namespace Rows

/-- THE TIED CARD OF 'draymanlaw18.TxnSteps'. -/
def txnStepsCard : Claim7 := { stood := { row := txnStepsRow, standIns := [], harness := (true, "a94468182d806c4d20958c31aa1272531b660268601bec1ea26a284c3b9e271c"), looks := true }, kinds := [], alts := [], laidByText := true, laidKinds := [.data, .data, .data, .data], laidTests := true, laidLooks := .later }
def TxnStepsCardSaid : Prop := Claim7.holds Tryz.pinned (.plain (OpenSpec.ofChange txnStepsSpec)) txnStepsCard

/-- THE SECOND FORM's CARD OF 'draymanlaw18.TxnSteps'. -/
def txnStepsUptoCard : Claim7 := { stood := { row := txnStepsUptoRow, standIns := [], harness := (true, "a94468182d806c4d20958c31aa1272531b660268601bec1ea26a284c3b9e271c"), looks := true }, kinds := [], alts := [], laidByText := true, laidKinds := [.data, .data, .data, .data], laidTests := true, laidLooks := .later }
def TxnStepsUptoCardSaid : Prop := Claim7.holds Tryz.pinned (.plain (OpenSpec.upto txnStepsSpec)) txnStepsUptoCard
end Rows
end Go.Proofs.YtpaifgipdhgfkaaGreatDoor
