/-
  DERIVED. GIVEN WITH THE SEED: THE CARDS: each row of YthmiaipampdegaaGreatDoorRows.lean that lists a variable, with what it lists TIED to the program's text (the seventh form; the later family's looks); each row that meets fmt, with fmt's text TOLD by the authors' own Lean function (tested against real Go, not proved from fmt's source: count such statements apart). THE CARD IS WHAT COUNTS. Prove the row's statement (the work); the ties are given (YthmiaipampdegaaGreatDoorTie.lean); close each card by the builder's one call (the guide's Derived/Test/ToyasCard.lean, 'card_holds'). Laid BY PROGRAM, IN A SANDBOX (cutbox-door.mjs). By AI agents, Wed Nov 11 2026. No macro, syntax, notation, axiom, sorry.
-/
import Derived.Test.YthmiaipampdegaaGreatDoorRows
import GoSem.ClaimSeven
namespace Go.Proofs.YthmiaipampdegaaGreatDoor
namespace Rows

/-- THE TIED CARD OF 'footbridgelaw14.ClientNone'. -/
def clientNoneCard : Claim7 := { stood := { row := clientNoneRow, standIns := [], harness := (true, "71d3e7c1eddcbdfd795ccc1854860f4f21fcf056399f251aab16825a4875b1f6"), looks := true }, kinds := [], alts := [], laidByText := true, laidKinds := [.data, .handle, .pinned], laidTests := true, laidLooks := .later }
def ClientNoneCardSaid : Prop := Claim7.holds Tryz.pinned (.plain (OpenSpec.ofChange clientNoneSpec)) clientNoneCard

/-- THE TIED CARD OF 'footbridgelaw15.ConnNone'. -/
def connNoneCard : Claim7 := { stood := { row := connNoneRow, standIns := [], harness := (true, "71d3e7c1eddcbdfd795ccc1854860f4f21fcf056399f251aab16825a4875b1f6"), looks := true }, kinds := [], alts := [], laidByText := true, laidKinds := [.data, .handle, .pinned], laidTests := true, laidLooks := .later }
def ConnNoneCardSaid : Prop := Claim7.holds Tryz.pinned (.plain (OpenSpec.ofChange connNoneSpec)) connNoneCard

/-- THE TIED CARD OF 'footbridgelaw15.ConnPuts'. -/
def connPutsCard : Claim7 := { stood := { row := connPutsRow, standIns := [], harness := (true, "71d3e7c1eddcbdfd795ccc1854860f4f21fcf056399f251aab16825a4875b1f6"), looks := true }, kinds := [], alts := [], laidByText := true, laidKinds := [.data, .handle, .pinned], laidTests := true, laidLooks := .later }
def ConnPutsCardSaid : Prop := Claim7.holds Tryz.pinned (.plain (OpenSpec.ofChange connPutsSpec)) connPutsCard

/-- THE SECOND FORM's CARD OF 'footbridgelaw14.ClientNone'. -/
def clientNoneUptoCard : Claim7 := { stood := { row := clientNoneUptoRow, standIns := [], harness := (true, "71d3e7c1eddcbdfd795ccc1854860f4f21fcf056399f251aab16825a4875b1f6"), looks := true }, kinds := [], alts := [], laidByText := true, laidKinds := [.data, .handle, .pinned], laidTests := true, laidLooks := .later }
def ClientNoneUptoCardSaid : Prop := Claim7.holds Tryz.pinned (.plain (OpenSpec.upto clientNoneSpec)) clientNoneUptoCard

/-- THE SECOND FORM's CARD OF 'footbridgelaw15.ConnNone'. -/
def connNoneUptoCard : Claim7 := { stood := { row := connNoneUptoRow, standIns := [], harness := (true, "71d3e7c1eddcbdfd795ccc1854860f4f21fcf056399f251aab16825a4875b1f6"), looks := true }, kinds := [], alts := [], laidByText := true, laidKinds := [.data, .handle, .pinned], laidTests := true, laidLooks := .later }
def ConnNoneUptoCardSaid : Prop := Claim7.holds Tryz.pinned (.plain (OpenSpec.upto connNoneSpec)) connNoneUptoCard

/-- THE SECOND FORM's CARD OF 'footbridgelaw15.ConnPuts'. -/
def connPutsUptoCard : Claim7 := { stood := { row := connPutsUptoRow, standIns := [], harness := (true, "71d3e7c1eddcbdfd795ccc1854860f4f21fcf056399f251aab16825a4875b1f6"), looks := true }, kinds := [], alts := [], laidByText := true, laidKinds := [.data, .handle, .pinned], laidTests := true, laidLooks := .later }
def ConnPutsUptoCardSaid : Prop := Claim7.holds Tryz.pinned (.plain (OpenSpec.upto connPutsSpec)) connPutsUptoCard
end Rows
end Go.Proofs.YthmiaipampdegaaGreatDoor
