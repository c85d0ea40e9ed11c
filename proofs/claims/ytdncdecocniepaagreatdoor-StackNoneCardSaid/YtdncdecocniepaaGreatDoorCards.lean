/-
  DERIVED. GIVEN WITH THE SEED: THE CARDS: each row of YtdncdecocniepaaGreatDoorRows.lean that lists a variable, with what it lists TIED to the program's text (the seventh form; the later family's looks); each row that meets fmt, with fmt's text TOLD by the authors' own Lean function (tested against real Go, not proved from fmt's source: count such statements apart). THE CARD IS WHAT COUNTS. Prove the row's statement (the work); the ties are given (YtdncdecocniepaaGreatDoorTie.lean); close each card by the builder's one call (the guide's Derived/Test/ToyasCard.lean, 'card_holds'). Laid BY PROGRAM, IN A SANDBOX (cutbox-door.mjs). By AI agents, Wed Nov 11 2026. No macro, syntax, notation, axiom, sorry.
-/
import Derived.Test.YtdncdecocniepaaGreatDoorRows
import GoSem.ClaimSeven
namespace Go.Proofs.YtdncdecocniepaaGreatDoor
namespace Rows

/-- THE TIED CARD OF 'footbridgelaw36.StackNone'. -/
def stackNoneCard : Claim7 := { stood := { row := stackNoneRow, standIns := [], harness := (true, "f27471b8d1e36c0ab6a9295389c1b8bc9e5653b8299b2ce371432044185db3d6"), looks := true }, kinds := [], alts := [], laidByText := true, laidKinds := [.data, .handle, .pinned], laidTests := true, laidLooks := .later }
def StackNoneCardSaid : Prop := Claim7.holds Tryz.pinned (.plain (OpenSpec.ofChange stackNoneSpec)) stackNoneCard

/-- THE SECOND FORM's CARD OF 'footbridgelaw36.StackNone'. -/
def stackNoneUptoCard : Claim7 := { stood := { row := stackNoneUptoRow, standIns := [], harness := (true, "f27471b8d1e36c0ab6a9295389c1b8bc9e5653b8299b2ce371432044185db3d6"), looks := true }, kinds := [], alts := [], laidByText := true, laidKinds := [.data, .handle, .pinned], laidTests := true, laidLooks := .later }
def StackNoneUptoCardSaid : Prop := Claim7.holds Tryz.pinned (.plain (OpenSpec.upto stackNoneSpec)) stackNoneUptoCard
end Rows
end Go.Proofs.YtdncdecocniepaaGreatDoor
