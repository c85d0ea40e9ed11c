/-
  DERIVED. GIVEN WITH THE SEED: THE CARDS: each row of YtlbaddmfdbndkaaGreatDoorRows.lean that lists a variable, with what it lists TIED to the program's text (the seventh form; the later family's looks); each row that meets fmt, with fmt's text TOLD by the authors' own Lean function (tested against real Go, not proved from fmt's source: count such statements apart). THE CARD IS WHAT COUNTS. Prove the row's statement (the work); the ties are given (YtlbaddmfdbndkaaGreatDoorTie.lean); close each card by the builder's one call (the guide's Derived/Test/ToyasCard.lean, 'card_holds'). Laid BY PROGRAM, IN A SANDBOX (cutbox-door.mjs). By AI agents, Wed Nov 11 2026. No macro, syntax, notation, axiom, sorry.
-/
import Derived.Test.YtlbaddmfdbndkaaGreatDoorRows
import GoSem.ClaimSeven
namespace Go.Proofs.YtlbaddmfdbndkaaGreatDoor
namespace Rows

/-- THE TIED CARD OF 'footbridgelaw21.TimeoutNone'. -/
def timeoutNoneCard : Claim7 := { stood := { row := timeoutNoneRow, standIns := [], harness := (true, "9487f256a2ce278fb9ea4de11ba5ffa2cf040a66018e750e8f80ab8055d46beb"), looks := true }, kinds := [], alts := [], laidByText := true, laidKinds := [.data, .handle, .pinned], laidTests := true, laidLooks := .later }
def TimeoutNoneCardSaid : Prop := Claim7.holds Tryz.pinned (.plain (OpenSpec.ofChange timeoutNoneSpec)) timeoutNoneCard

/-- THE TIED CARD OF 'footbridgelaw21.TimeoutPassed'. -/
def timeoutPassedCard : Claim7 := { stood := { row := timeoutPassedRow, standIns := [], harness := (true, "9487f256a2ce278fb9ea4de11ba5ffa2cf040a66018e750e8f80ab8055d46beb"), looks := true }, kinds := [], alts := [], laidByText := true, laidKinds := [.data, .handle, .pinned], laidTests := true, laidLooks := .later }
def TimeoutPassedCardSaid : Prop := Claim7.holds Tryz.pinned (.plain (OpenSpec.ofChange timeoutPassedSpec)) timeoutPassedCard

/-- THE SECOND FORM's CARD OF 'footbridgelaw21.TimeoutNone'. -/
def timeoutNoneUptoCard : Claim7 := { stood := { row := timeoutNoneUptoRow, standIns := [], harness := (true, "9487f256a2ce278fb9ea4de11ba5ffa2cf040a66018e750e8f80ab8055d46beb"), looks := true }, kinds := [], alts := [], laidByText := true, laidKinds := [.data, .handle, .pinned], laidTests := true, laidLooks := .later }
def TimeoutNoneUptoCardSaid : Prop := Claim7.holds Tryz.pinned (.plain (OpenSpec.upto timeoutNoneSpec)) timeoutNoneUptoCard

/-- THE SECOND FORM's CARD OF 'footbridgelaw21.TimeoutPassed'. -/
def timeoutPassedUptoCard : Claim7 := { stood := { row := timeoutPassedUptoRow, standIns := [], harness := (true, "9487f256a2ce278fb9ea4de11ba5ffa2cf040a66018e750e8f80ab8055d46beb"), looks := true }, kinds := [], alts := [], laidByText := true, laidKinds := [.data, .handle, .pinned], laidTests := true, laidLooks := .later }
def TimeoutPassedUptoCardSaid : Prop := Claim7.holds Tryz.pinned (.plain (OpenSpec.upto timeoutPassedSpec)) timeoutPassedUptoCard
end Rows
end Go.Proofs.YtlbaddmfdbndkaaGreatDoor
