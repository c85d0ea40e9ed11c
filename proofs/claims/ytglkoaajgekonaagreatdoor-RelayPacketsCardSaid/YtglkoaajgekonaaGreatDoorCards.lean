/-
  DERIVED. GIVEN WITH THE SEED: THE CARDS: each row of YtglkoaajgekonaaGreatDoorRows.lean that lists a variable, with what it lists TIED to the program's text (the seventh form; the later family's looks); each row that meets fmt, with fmt's text TOLD by the authors' own Lean function (tested against real Go, not proved from fmt's source: count such statements apart). THE CARD IS WHAT COUNTS. Prove the row's statement (the work); the ties are given (YtglkoaajgekonaaGreatDoorTie.lean); close each card by the builder's one call (the guide's Derived/Test/ToyasCard.lean, 'card_holds'). Laid BY PROGRAM, IN A SANDBOX (cutbox-door.mjs). By AI agents, Wed Nov 11 2026. No macro, syntax, notation, axiom, sorry.
-/
import Derived.Test.YtglkoaajgekonaaGreatDoorRows
import GoSem.ClaimSeven
namespace Go.Proofs.YtglkoaajgekonaaGreatDoor
namespace Rows

/-- THE TIED CARD OF 'footbridgelaw40.RelaySteps'. -/
def relayStepsCard : Claim7 := { stood := { row := relayStepsRow, standIns := [], harness := (true, "702b704430174686c53ed038b313fc9cf1540477b17af910179fb7ed9a9eb773"), looks := false }, kinds := [], alts := [], laidByText := true, laidKinds := [.data, .pinned], laidTests := true, laidLooks := .later }
def RelayStepsCardSaid : Prop := Claim7.holds Tryz.pinned (.plain (OpenSpec.ofChange relayStepsSpec)) relayStepsCard

/-- THE TIED CARD OF 'footbridgelaw40.RelayUpdates'. -/
def relayUpdatesCard : Claim7 := { stood := { row := relayUpdatesRow, standIns := [], harness := (true, "702b704430174686c53ed038b313fc9cf1540477b17af910179fb7ed9a9eb773"), looks := false }, kinds := [], alts := [], laidByText := true, laidKinds := [.data, .pinned], laidTests := true, laidLooks := .later }
def RelayUpdatesCardSaid : Prop := Claim7.holds Tryz.pinned (.plain (OpenSpec.ofChange relayUpdatesSpec)) relayUpdatesCard

/-- THE TIED CARD OF 'footbridgelaw40.RelayPackets'. -/
def relayPacketsCard : Claim7 := { stood := { row := relayPacketsRow, standIns := [], harness := (true, "702b704430174686c53ed038b313fc9cf1540477b17af910179fb7ed9a9eb773"), looks := false }, kinds := [], alts := [], laidByText := true, laidKinds := [.data, .pinned], laidTests := true, laidLooks := .later }
def RelayPacketsCardSaid : Prop := Claim7.holds Tryz.pinned (.plain (OpenSpec.ofChange relayPacketsSpec)) relayPacketsCard

/-- THE SECOND FORM's CARD OF 'footbridgelaw40.RelaySteps'. -/
def relayStepsUptoCard : Claim7 := { stood := { row := relayStepsUptoRow, standIns := [], harness := (true, "702b704430174686c53ed038b313fc9cf1540477b17af910179fb7ed9a9eb773"), looks := false }, kinds := [], alts := [], laidByText := true, laidKinds := [.data, .pinned], laidTests := true, laidLooks := .later }
def RelayStepsUptoCardSaid : Prop := Claim7.holds Tryz.pinned (.plain (OpenSpec.upto relayStepsSpec)) relayStepsUptoCard

/-- THE SECOND FORM's CARD OF 'footbridgelaw40.RelayUpdates'. -/
def relayUpdatesUptoCard : Claim7 := { stood := { row := relayUpdatesUptoRow, standIns := [], harness := (true, "702b704430174686c53ed038b313fc9cf1540477b17af910179fb7ed9a9eb773"), looks := false }, kinds := [], alts := [], laidByText := true, laidKinds := [.data, .pinned], laidTests := true, laidLooks := .later }
def RelayUpdatesUptoCardSaid : Prop := Claim7.holds Tryz.pinned (.plain (OpenSpec.upto relayUpdatesSpec)) relayUpdatesUptoCard

/-- THE SECOND FORM's CARD OF 'footbridgelaw40.RelayPackets'. -/
def relayPacketsUptoCard : Claim7 := { stood := { row := relayPacketsUptoRow, standIns := [], harness := (true, "702b704430174686c53ed038b313fc9cf1540477b17af910179fb7ed9a9eb773"), looks := false }, kinds := [], alts := [], laidByText := true, laidKinds := [.data, .pinned], laidTests := true, laidLooks := .later }
def RelayPacketsUptoCardSaid : Prop := Claim7.holds Tryz.pinned (.plain (OpenSpec.upto relayPacketsSpec)) relayPacketsUptoCard
end Rows
end Go.Proofs.YtglkoaajgekonaaGreatDoor
