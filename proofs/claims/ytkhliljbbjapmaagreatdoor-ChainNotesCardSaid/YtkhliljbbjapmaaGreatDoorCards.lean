/-
  DERIVED. GIVEN WITH THE SEED: THE CARDS: each row of YtkhliljbbjapmaaGreatDoorRows.lean that lists a variable, with what it lists TIED to the program's text (the seventh form; the later family's looks); each row that meets fmt, with fmt's text TOLD by the authors' own Lean function (tested against real Go, not proved from fmt's source: count such statements apart). THE CARD IS WHAT COUNTS. Prove the row's statement (the work); the ties are given (YtkhliljbbjapmaaGreatDoorTie.lean); close each card by the builder's one call (the guide's Derived/Test/ToyasCard.lean, 'card_holds'). Laid BY PROGRAM, IN A SANDBOX (cutbox-door.mjs). By AI agents, Wed Nov 11 2026. No macro, syntax, notation, axiom, sorry.
-/
import Derived.Test.YtkhliljbbjapmaaGreatDoorRows
import GoSem.ClaimSeven
namespace Go.Proofs.YtkhliljbbjapmaaGreatDoor
namespace Rows

/-- THE TIED CARD OF 'footbridgelaw38.ChainNotes'. -/
def chainNotesCard : Claim7 := { stood := { row := chainNotesRow, standIns := [], harness := (true, "7237c78e0d68a07398ed9b82b298d2c57905cba3043317ebb8fdb7fa2fe71a1f"), looks := false }, kinds := [], alts := [], laidByText := true, laidKinds := [.data, .pinned], laidTests := true, laidLooks := .later }
def ChainNotesCardSaid : Prop := Claim7.holds Tryz.pinned (.plain (OpenSpec.ofChange chainNotesSpec)) chainNotesCard

/-- THE TIED CARD OF 'footbridgelaw38.ChainNames'. -/
def chainNamesCard : Claim7 := { stood := { row := chainNamesRow, standIns := [], harness := (true, "7237c78e0d68a07398ed9b82b298d2c57905cba3043317ebb8fdb7fa2fe71a1f"), looks := false }, kinds := [], alts := [], laidByText := true, laidKinds := [.data, .pinned], laidTests := true, laidLooks := .later }
def ChainNamesCardSaid : Prop := Claim7.holds Tryz.pinned (.plain (OpenSpec.ofChange chainNamesSpec)) chainNamesCard

/-- THE SECOND FORM's CARD OF 'footbridgelaw38.ChainNotes'. -/
def chainNotesUptoCard : Claim7 := { stood := { row := chainNotesUptoRow, standIns := [], harness := (true, "7237c78e0d68a07398ed9b82b298d2c57905cba3043317ebb8fdb7fa2fe71a1f"), looks := false }, kinds := [], alts := [], laidByText := true, laidKinds := [.data, .pinned], laidTests := true, laidLooks := .later }
def ChainNotesUptoCardSaid : Prop := Claim7.holds Tryz.pinned (.plain (OpenSpec.upto chainNotesSpec)) chainNotesUptoCard

/-- THE SECOND FORM's CARD OF 'footbridgelaw38.ChainNames'. -/
def chainNamesUptoCard : Claim7 := { stood := { row := chainNamesUptoRow, standIns := [], harness := (true, "7237c78e0d68a07398ed9b82b298d2c57905cba3043317ebb8fdb7fa2fe71a1f"), looks := false }, kinds := [], alts := [], laidByText := true, laidKinds := [.data, .pinned], laidTests := true, laidLooks := .later }
def ChainNamesUptoCardSaid : Prop := Claim7.holds Tryz.pinned (.plain (OpenSpec.upto chainNamesSpec)) chainNamesUptoCard
end Rows
end Go.Proofs.YtkhliljbbjapmaaGreatDoor
