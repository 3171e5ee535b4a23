/-
  DERIVED. GIVEN WITH THE SEED: THE CARDS: each row of YtkeklbicmfhemabDoorRows.lean that lists a variable, with what it lists TIED to the program's text (the seventh form; the later family's looks); each row that meets fmt, with fmt's text TOLD by the authors' own Lean function (tested against real Go, not proved from fmt's source: count such statements apart). THE CARD IS WHAT COUNTS. Prove the row's statement (the work); the ties are given (YtkeklbicmfhemabDoorTie.lean); close each card by the builder's one call (the guide's Derived/Test/ToyasCard.lean, 'card_holds'). Laid BY PROGRAM, IN A SANDBOX (cutbox-door.mjs). By AI agents, Wed Nov 11 2026. No macro, syntax, notation, axiom, sorry.
-/
import Derived.Test.YtkeklbicmfhemabDoorRows
import GoSem.ClaimSeven
namespace Go.Proofs.YtkeklbicmfhemabDoor
namespace Rows

/-- THE TIED CARD OF 'draymanlaw16.SayForms'. -/
def sayFormsCard : Claim7 := { stood := { row := sayFormsRow, standIns := [], harness := (true, "c2d3640c9e82e830067260c91b552f9ba3787f377218ea03c98f6545160fbd5c"), looks := true }, kinds := [], alts := [], laidByText := true, laidKinds := [.data, .data, .data, .data, .sentinel, .sentinel, .pinned], laidTests := true, laidLooks := .later }
def SayFormsCardSaid : Prop := Claim7.holds Tryd.pinned (.plain (OpenSpec.ofChange sayFormsSpec)) sayFormsCard

/-- THE TIED CARD OF 'draymanlaw16.SayBack'. -/
def sayBackCard : Claim7 := { stood := { row := sayBackRow, standIns := [], harness := (true, "c2d3640c9e82e830067260c91b552f9ba3787f377218ea03c98f6545160fbd5c"), looks := true }, kinds := [], alts := [], laidByText := true, laidKinds := [.data, .data, .data, .data, .sentinel, .sentinel, .pinned], laidTests := true, laidLooks := .later }
def SayBackCardSaid : Prop := Claim7.holds Tryd.pinned (.plain (OpenSpec.ofChange sayBackSpec)) sayBackCard

/-- THE TIED CARD OF 'draymanlaw16.SayOnly'. -/
def sayOnlyCard : Claim7 := { stood := { row := sayOnlyRow, standIns := [], harness := (true, "c2d3640c9e82e830067260c91b552f9ba3787f377218ea03c98f6545160fbd5c"), looks := true }, kinds := [], alts := [], laidByText := true, laidKinds := [.data, .data, .data, .data, .sentinel, .sentinel, .pinned], laidTests := true, laidLooks := .later }
def SayOnlyCardSaid : Prop := Claim7.holds Tryd.pinned (.plain (OpenSpec.ofChange sayOnlySpec)) sayOnlyCard

/-- THE TIED CARD OF 'draymanlaw03.InstTells'. -/
def instTellsCard : Claim7 := { stood := { row := instTellsRow, standIns := [], harness := (true, "c2d3640c9e82e830067260c91b552f9ba3787f377218ea03c98f6545160fbd5c"), looks := true }, kinds := [], alts := [], laidByText := true, laidKinds := [.data, .data, .data], laidTests := true, laidLooks := .later }
def InstTellsCardSaid : Prop := Claim7.holds Tryd.pinned (.plain (OpenSpec.ofChange instTellsSpec)) instTellsCard

/-- THE SECOND FORM's CARD OF 'draymanlaw16.SayForms'. -/
def sayFormsUptoCard : Claim7 := { stood := { row := sayFormsUptoRow, standIns := [], harness := (true, "c2d3640c9e82e830067260c91b552f9ba3787f377218ea03c98f6545160fbd5c"), looks := true }, kinds := [], alts := [], laidByText := true, laidKinds := [.data, .data, .data, .data, .sentinel, .sentinel, .pinned], laidTests := true, laidLooks := .later }
def SayFormsUptoCardSaid : Prop := Claim7.holds Tryd.pinned (.plain (OpenSpec.upto sayFormsSpec)) sayFormsUptoCard

/-- THE SECOND FORM's CARD OF 'draymanlaw16.SayBack'. -/
def sayBackUptoCard : Claim7 := { stood := { row := sayBackUptoRow, standIns := [], harness := (true, "c2d3640c9e82e830067260c91b552f9ba3787f377218ea03c98f6545160fbd5c"), looks := true }, kinds := [], alts := [], laidByText := true, laidKinds := [.data, .data, .data, .data, .sentinel, .sentinel, .pinned], laidTests := true, laidLooks := .later }
def SayBackUptoCardSaid : Prop := Claim7.holds Tryd.pinned (.plain (OpenSpec.upto sayBackSpec)) sayBackUptoCard

/-- THE SECOND FORM's CARD OF 'draymanlaw16.SayOnly'. -/
def sayOnlyUptoCard : Claim7 := { stood := { row := sayOnlyUptoRow, standIns := [], harness := (true, "c2d3640c9e82e830067260c91b552f9ba3787f377218ea03c98f6545160fbd5c"), looks := true }, kinds := [], alts := [], laidByText := true, laidKinds := [.data, .data, .data, .data, .sentinel, .sentinel, .pinned], laidTests := true, laidLooks := .later }
def SayOnlyUptoCardSaid : Prop := Claim7.holds Tryd.pinned (.plain (OpenSpec.upto sayOnlySpec)) sayOnlyUptoCard

/-- THE SECOND FORM's CARD OF 'draymanlaw03.InstTells'. -/
def instTellsUptoCard : Claim7 := { stood := { row := instTellsUptoRow, standIns := [], harness := (true, "c2d3640c9e82e830067260c91b552f9ba3787f377218ea03c98f6545160fbd5c"), looks := true }, kinds := [], alts := [], laidByText := true, laidKinds := [.data, .data, .data], laidTests := true, laidLooks := .later }
def InstTellsUptoCardSaid : Prop := Claim7.holds Tryd.pinned (.plain (OpenSpec.upto instTellsSpec)) instTellsUptoCard
end Rows
end Go.Proofs.YtkeklbicmfhemabDoor
