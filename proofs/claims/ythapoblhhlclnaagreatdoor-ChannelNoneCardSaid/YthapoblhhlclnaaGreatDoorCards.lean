/-
  DERIVED. GIVEN WITH THE SEED: THE CARDS: each row of YthapoblhhlclnaaGreatDoorRows.lean that lists a variable, with what it lists TIED to the program's text (the seventh form; the later family's looks); each row that meets fmt, with fmt's text TOLD by the authors' own Lean function (tested against real Go, not proved from fmt's source: count such statements apart). THE CARD IS WHAT COUNTS. Prove the row's statement (the work); the ties are given (YthapoblhhlclnaaGreatDoorTie.lean); close each card by the builder's one call (the guide's Derived/Test/ToyasCard.lean, 'card_holds'). Laid BY PROGRAM, IN A SANDBOX (cutbox-door.mjs). By AI agents, Wed Nov 11 2026. No macro, syntax, notation, axiom, sorry.
-/
import Derived.Test.YthapoblhhlclnaaGreatDoorRows
import GoSem.ClaimSeven
namespace Go.Proofs.YthapoblhhlclnaaGreatDoor
namespace Rows

/-- THE TIED CARD OF 'footbridgelaw32.RefundNone'. -/
def refundNoneCard : Claim7 := { stood := { row := refundNoneRow, standIns := [], harness := (true, "6fa44abe39853b542778f7062abeeda7537e93c76b17daac1c910a87c9e4dc83"), looks := true }, kinds := [], alts := [], laidByText := true, laidKinds := [.data, .handle, .pinned], laidTests := true, laidLooks := .later }
def RefundNoneCardSaid : Prop := Claim7.holds Tryz.pinned (.plain (OpenSpec.ofChange refundNoneSpec)) refundNoneCard

/-- THE TIED CARD OF 'footbridgelaw16.ChannelNone'. -/
def channelNoneCard : Claim7 := { stood := { row := channelNoneRow, standIns := [], harness := (true, "6fa44abe39853b542778f7062abeeda7537e93c76b17daac1c910a87c9e4dc83"), looks := true }, kinds := [], alts := [], laidByText := true, laidKinds := [.data, .handle, .pinned], laidTests := true, laidLooks := .later }
def ChannelNoneCardSaid : Prop := Claim7.holds Tryz.pinned (.plain (OpenSpec.ofChange channelNoneSpec)) channelNoneCard

/-- THE TIED CARD OF 'footbridgelaw16.ChannelPuts'. -/
def channelPutsCard : Claim7 := { stood := { row := channelPutsRow, standIns := [], harness := (true, "6fa44abe39853b542778f7062abeeda7537e93c76b17daac1c910a87c9e4dc83"), looks := true }, kinds := [], alts := [], laidByText := true, laidKinds := [.data, .handle, .pinned], laidTests := true, laidLooks := .later }
def ChannelPutsCardSaid : Prop := Claim7.holds Tryz.pinned (.plain (OpenSpec.ofChange channelPutsSpec)) channelPutsCard

/-- THE SECOND FORM's CARD OF 'footbridgelaw32.RefundNone'. -/
def refundNoneUptoCard : Claim7 := { stood := { row := refundNoneUptoRow, standIns := [], harness := (true, "6fa44abe39853b542778f7062abeeda7537e93c76b17daac1c910a87c9e4dc83"), looks := true }, kinds := [], alts := [], laidByText := true, laidKinds := [.data, .handle, .pinned], laidTests := true, laidLooks := .later }
def RefundNoneUptoCardSaid : Prop := Claim7.holds Tryz.pinned (.plain (OpenSpec.upto refundNoneSpec)) refundNoneUptoCard

/-- THE SECOND FORM's CARD OF 'footbridgelaw16.ChannelNone'. -/
def channelNoneUptoCard : Claim7 := { stood := { row := channelNoneUptoRow, standIns := [], harness := (true, "6fa44abe39853b542778f7062abeeda7537e93c76b17daac1c910a87c9e4dc83"), looks := true }, kinds := [], alts := [], laidByText := true, laidKinds := [.data, .handle, .pinned], laidTests := true, laidLooks := .later }
def ChannelNoneUptoCardSaid : Prop := Claim7.holds Tryz.pinned (.plain (OpenSpec.upto channelNoneSpec)) channelNoneUptoCard

/-- THE SECOND FORM's CARD OF 'footbridgelaw16.ChannelPuts'. -/
def channelPutsUptoCard : Claim7 := { stood := { row := channelPutsUptoRow, standIns := [], harness := (true, "6fa44abe39853b542778f7062abeeda7537e93c76b17daac1c910a87c9e4dc83"), looks := true }, kinds := [], alts := [], laidByText := true, laidKinds := [.data, .handle, .pinned], laidTests := true, laidLooks := .later }
def ChannelPutsUptoCardSaid : Prop := Claim7.holds Tryz.pinned (.plain (OpenSpec.upto channelPutsSpec)) channelPutsUptoCard
end Rows
end Go.Proofs.YthapoblhhlclnaaGreatDoor
