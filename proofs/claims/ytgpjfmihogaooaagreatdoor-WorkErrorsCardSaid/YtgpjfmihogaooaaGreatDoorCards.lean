/-
  DERIVED. GIVEN WITH THE SEED: THE CARDS: each row of YtgpjfmihogaooaaGreatDoorRows.lean that lists a variable, with what it lists TIED to the program's text (the seventh form; the later family's looks); each row that meets fmt, with fmt's text TOLD by the authors' own Lean function (tested against real Go, not proved from fmt's source: count such statements apart). THE CARD IS WHAT COUNTS. Prove the row's statement (the work); the ties are given (YtgpjfmihogaooaaGreatDoorTie.lean); close each card by the builder's one call (the guide's Derived/Test/ToyasCard.lean, 'card_holds'). Laid BY PROGRAM, IN A SANDBOX (cutbox-door.mjs). By AI agents, Wed Nov 11 2026. No macro, syntax, notation, axiom, sorry.
-/
import Derived.Test.YtgpjfmihogaooaaGreatDoorRows
import GoSem.ClaimSeven
namespace Go.Proofs.YtgpjfmihogaooaaGreatDoor
namespace Rows

/-- THE TIED CARD OF 'draymanlaw17.WorkErrors'. -/
def workErrorsCard : Claim7 := { stood := { row := workErrorsRow, standIns := [], harness := (true, "18c381122230835c6666518fca263e178eed547d2cdf62b6d42b4dee36a0540c"), looks := true }, kinds := [], alts := [], laidByText := true, laidKinds := [.data, .data, .data], laidTests := true, laidLooks := .later }
def WorkErrorsCardSaid : Prop := Claim7.holds Tryz.pinned (.plain (OpenSpec.ofChange workErrorsSpec)) workErrorsCard

/-- THE TIED CARD OF 'draymanlaw17.WorkPlays'. -/
def workPlaysCard : Claim7 := { stood := { row := workPlaysRow, standIns := [], harness := (true, "18c381122230835c6666518fca263e178eed547d2cdf62b6d42b4dee36a0540c"), looks := true }, kinds := [], alts := [], laidByText := true, laidKinds := [.data, .data, .data], laidTests := true, laidLooks := .later }
def WorkPlaysCardSaid : Prop := Claim7.holds Tryz.pinned (.plain (OpenSpec.ofChange workPlaysSpec)) workPlaysCard

/-- THE TIED CARD OF 'draymanlaw18.TxnSteps'. -/
def txnStepsCard : Claim7 := { stood := { row := txnStepsRow, standIns := [], harness := (true, "18c381122230835c6666518fca263e178eed547d2cdf62b6d42b4dee36a0540c"), looks := true }, kinds := [], alts := [], laidByText := true, laidKinds := [.data, .data, .data, .data], laidTests := true, laidLooks := .later }
def TxnStepsCardSaid : Prop := Claim7.holds Tryz.pinned (.plain (OpenSpec.ofChange txnStepsSpec)) txnStepsCard

/-- THE TIED CARD OF 'draymanlaw18.TxnCalm'. -/
def txnCalmCard : Claim7 := { stood := { row := txnCalmRow, standIns := [], harness := (true, "18c381122230835c6666518fca263e178eed547d2cdf62b6d42b4dee36a0540c"), looks := true }, kinds := [], alts := [], laidByText := true, laidKinds := [.data, .data, .data, .data], laidTests := true, laidLooks := .later }
def TxnCalmCardSaid : Prop := Claim7.holds Tryz.pinned (.plain (OpenSpec.ofChange txnCalmSpec)) txnCalmCard

/-- THE SECOND FORM's CARD OF 'draymanlaw17.WorkErrors'. -/
def workErrorsUptoCard : Claim7 := { stood := { row := workErrorsUptoRow, standIns := [], harness := (true, "18c381122230835c6666518fca263e178eed547d2cdf62b6d42b4dee36a0540c"), looks := true }, kinds := [], alts := [], laidByText := true, laidKinds := [.data, .data, .data], laidTests := true, laidLooks := .later }
def WorkErrorsUptoCardSaid : Prop := Claim7.holds Tryz.pinned (.plain (OpenSpec.upto workErrorsSpec)) workErrorsUptoCard

/-- THE SECOND FORM's CARD OF 'draymanlaw17.WorkPlays'. -/
def workPlaysUptoCard : Claim7 := { stood := { row := workPlaysUptoRow, standIns := [], harness := (true, "18c381122230835c6666518fca263e178eed547d2cdf62b6d42b4dee36a0540c"), looks := true }, kinds := [], alts := [], laidByText := true, laidKinds := [.data, .data, .data], laidTests := true, laidLooks := .later }
def WorkPlaysUptoCardSaid : Prop := Claim7.holds Tryz.pinned (.plain (OpenSpec.upto workPlaysSpec)) workPlaysUptoCard

/-- THE SECOND FORM's CARD OF 'draymanlaw18.TxnSteps'. -/
def txnStepsUptoCard : Claim7 := { stood := { row := txnStepsUptoRow, standIns := [], harness := (true, "18c381122230835c6666518fca263e178eed547d2cdf62b6d42b4dee36a0540c"), looks := true }, kinds := [], alts := [], laidByText := true, laidKinds := [.data, .data, .data, .data], laidTests := true, laidLooks := .later }
def TxnStepsUptoCardSaid : Prop := Claim7.holds Tryz.pinned (.plain (OpenSpec.upto txnStepsSpec)) txnStepsUptoCard

/-- THE SECOND FORM's CARD OF 'draymanlaw18.TxnCalm'. -/
def txnCalmUptoCard : Claim7 := { stood := { row := txnCalmUptoRow, standIns := [], harness := (true, "18c381122230835c6666518fca263e178eed547d2cdf62b6d42b4dee36a0540c"), looks := true }, kinds := [], alts := [], laidByText := true, laidKinds := [.data, .data, .data, .data], laidTests := true, laidLooks := .later }
def TxnCalmUptoCardSaid : Prop := Claim7.holds Tryz.pinned (.plain (OpenSpec.upto txnCalmSpec)) txnCalmUptoCard
end Rows
end Go.Proofs.YtgpjfmihogaooaaGreatDoor
