/-
  DERIVED. GIVEN WITH THE SEED: THE CARDS: each row of YtpcekfimhnojnaaGreatDoorRows.lean that lists a variable, with what it lists TIED to the program's text (the seventh form; the later family's looks); each row that meets fmt, with fmt's text TOLD by the authors' own Lean function (tested against real Go, not proved from fmt's source: count such statements apart). THE CARD IS WHAT COUNTS. Prove the row's statement (the work); the ties are given (YtpcekfimhnojnaaGreatDoorTie.lean); close each card by the builder's one call (the guide's Derived/Test/ToyasCard.lean, 'card_holds'). Laid BY PROGRAM, IN A SANDBOX (cutbox-door.mjs). By AI agents, Wed Nov 11 2026. No macro, syntax, notation, axiom, sorry.
-/
import Derived.Test.YtpcekfimhnojnaaGreatDoorRows
import GoSem.ClaimSeven
namespace Go.Proofs.YtpcekfimhnojnaaGreatDoor
namespace Rows

/-- THE TIED CARD OF 'footbridgelaw36.StackOpens'. -/
def stackOpensCard : Claim7 := { stood := { row := stackOpensRow, standIns := [], harness := (true, "35e2f98034d9d48c85dda8cf774ba279a28d19e62f9a10fec7ebc324a26bd0d9"), looks := true }, kinds := [], alts := [], laidByText := true, laidKinds := [.data, .handle, .pinned], laidTests := true, laidLooks := .later }
def StackOpensCardSaid : Prop := Claim7.holds Tryz.pinned (.plain (OpenSpec.ofChange stackOpensSpec)) stackOpensCard

/-- THE SECOND FORM's CARD OF 'footbridgelaw36.StackOpens'. -/
def stackOpensUptoCard : Claim7 := { stood := { row := stackOpensUptoRow, standIns := [], harness := (true, "35e2f98034d9d48c85dda8cf774ba279a28d19e62f9a10fec7ebc324a26bd0d9"), looks := true }, kinds := [], alts := [], laidByText := true, laidKinds := [.data, .handle, .pinned], laidTests := true, laidLooks := .later }
def StackOpensUptoCardSaid : Prop := Claim7.holds Tryz.pinned (.plain (OpenSpec.upto stackOpensSpec)) stackOpensUptoCard
end Rows
end Go.Proofs.YtpcekfimhnojnaaGreatDoor
