/-
  DERIVED. GIVEN WITH THE SEED: THE CARDS: each row of YtjfnajoopgcohaaGreatDoorRows.lean that lists a variable, with what it lists TIED to the program's text (the seventh form; the later family's looks); each row that meets fmt, with fmt's text TOLD by the authors' own Lean function (tested against real Go, not proved from fmt's source: count such statements apart). THE CARD IS WHAT COUNTS. Prove the row's statement (the work); the ties are given (YtjfnajoopgcohaaGreatDoorTie.lean); close each card by the builder's one call (the guide's Derived/Test/ToyasCard.lean, 'card_holds'). Laid BY PROGRAM, IN A SANDBOX (cutbox-door.mjs). By AI agents, Wed Nov 11 2026. No macro, syntax, notation, axiom, sorry.
-/
import Derived.Test.YtjfnajoopgcohaaGreatDoorRows
import GoSem.ClaimSeven
namespace Go.Proofs.YtjfnajoopgcohaaGreatDoor
namespace Rows

/-- THE TIED CARD OF 'footbridgelaw31.IncomeNone'. -/
def incomeNoneCard : Claim7 := { stood := { row := incomeNoneRow, standIns := [], harness := (true, "c164a53e788d953dc72f89d3874296048aa9d86a83aa5ea0788380309e417a90"), looks := true }, kinds := [], alts := [], laidByText := true, laidKinds := [.data, .pinned], laidTests := true, laidLooks := .later }
def IncomeNoneCardSaid : Prop := Claim7.holds Tryz.pinned (.plain (OpenSpec.ofChange incomeNoneSpec)) incomeNoneCard

/-- THE SECOND FORM's CARD OF 'footbridgelaw31.IncomeNone'. -/
def incomeNoneUptoCard : Claim7 := { stood := { row := incomeNoneUptoRow, standIns := [], harness := (true, "c164a53e788d953dc72f89d3874296048aa9d86a83aa5ea0788380309e417a90"), looks := true }, kinds := [], alts := [], laidByText := true, laidKinds := [.data, .pinned], laidTests := true, laidLooks := .later }
def IncomeNoneUptoCardSaid : Prop := Claim7.holds Tryz.pinned (.plain (OpenSpec.upto incomeNoneSpec)) incomeNoneUptoCard
end Rows
end Go.Proofs.YtjfnajoopgcohaaGreatDoor
