/-
  DERIVED. GIVEN WITH THE SEED: THE CARDS: each row of YtaomokmomkdaaaaGreatDoorRows.lean that lists a variable, with what it lists TIED to the program's text (the seventh form; the later family's looks); each row that meets fmt, with fmt's text TOLD by the authors' own Lean function (tested against real Go, not proved from fmt's source: count such statements apart). THE CARD IS WHAT COUNTS. Prove the row's statement (the work); the ties are given (YtaomokmomkdaaaaGreatDoorTie.lean); close each card by the builder's one call (the guide's Derived/Test/ToyasCard.lean, 'card_holds'). Laid BY PROGRAM, IN A SANDBOX (cutbox-door.mjs). By AI agents, Wed Nov 11 2026. No macro, syntax, notation, axiom, sorry.
-/
import Derived.Test.YtaomokmomkdaaaaGreatDoorRows
import GoSem.ClaimSeven
namespace Go.Proofs.YtaomokmomkdaaaaGreatDoor
namespace Rows

/-- THE TIED CARD OF 'footbridgelaw48.MarketNone'. -/
def marketNoneCard : Claim7 := { stood := { row := marketNoneRow, standIns := [], harness := (true, "90b8ff677af36b8bcfd2366e0f9ee182eeb3412c31bdcf2754a887a68f8573f3"), looks := true }, kinds := [], alts := [], laidByText := true, laidKinds := [.data, .handle, .pinned], laidTests := true, laidLooks := .later }
def MarketNoneCardSaid : Prop := Claim7.holds Tryz.pinned (.plain (OpenSpec.ofChange marketNoneSpec)) marketNoneCard

/-- THE TIED CARD OF 'footbridgelaw31.IncomeNone'. -/
def incomeNoneCard : Claim7 := { stood := { row := incomeNoneRow, standIns := [], harness := (true, "90b8ff677af36b8bcfd2366e0f9ee182eeb3412c31bdcf2754a887a68f8573f3"), looks := true }, kinds := [], alts := [], laidByText := true, laidKinds := [.data, .pinned], laidTests := true, laidLooks := .later }
def IncomeNoneCardSaid : Prop := Claim7.holds Tryz.pinned (.plain (OpenSpec.ofChange incomeNoneSpec)) incomeNoneCard

/-- THE TIED CARD OF 'footbridgelaw30.OutgoNone'. -/
def outgoNoneCard : Claim7 := { stood := { row := outgoNoneRow, standIns := [], harness := (true, "90b8ff677af36b8bcfd2366e0f9ee182eeb3412c31bdcf2754a887a68f8573f3"), looks := true }, kinds := [], alts := [], laidByText := true, laidKinds := [.data, .pinned], laidTests := true, laidLooks := .later }
def OutgoNoneCardSaid : Prop := Claim7.holds Tryz.pinned (.plain (OpenSpec.ofChange outgoNoneSpec)) outgoNoneCard

/-- THE SECOND FORM's CARD OF 'footbridgelaw48.MarketNone'. -/
def marketNoneUptoCard : Claim7 := { stood := { row := marketNoneUptoRow, standIns := [], harness := (true, "90b8ff677af36b8bcfd2366e0f9ee182eeb3412c31bdcf2754a887a68f8573f3"), looks := true }, kinds := [], alts := [], laidByText := true, laidKinds := [.data, .handle, .pinned], laidTests := true, laidLooks := .later }
def MarketNoneUptoCardSaid : Prop := Claim7.holds Tryz.pinned (.plain (OpenSpec.upto marketNoneSpec)) marketNoneUptoCard

/-- THE SECOND FORM's CARD OF 'footbridgelaw31.IncomeNone'. -/
def incomeNoneUptoCard : Claim7 := { stood := { row := incomeNoneUptoRow, standIns := [], harness := (true, "90b8ff677af36b8bcfd2366e0f9ee182eeb3412c31bdcf2754a887a68f8573f3"), looks := true }, kinds := [], alts := [], laidByText := true, laidKinds := [.data, .pinned], laidTests := true, laidLooks := .later }
def IncomeNoneUptoCardSaid : Prop := Claim7.holds Tryz.pinned (.plain (OpenSpec.upto incomeNoneSpec)) incomeNoneUptoCard

/-- THE SECOND FORM's CARD OF 'footbridgelaw30.OutgoNone'. -/
def outgoNoneUptoCard : Claim7 := { stood := { row := outgoNoneUptoRow, standIns := [], harness := (true, "90b8ff677af36b8bcfd2366e0f9ee182eeb3412c31bdcf2754a887a68f8573f3"), looks := true }, kinds := [], alts := [], laidByText := true, laidKinds := [.data, .pinned], laidTests := true, laidLooks := .later }
def OutgoNoneUptoCardSaid : Prop := Claim7.holds Tryz.pinned (.plain (OpenSpec.upto outgoNoneSpec)) outgoNoneUptoCard
end Rows
end Go.Proofs.YtaomokmomkdaaaaGreatDoor
