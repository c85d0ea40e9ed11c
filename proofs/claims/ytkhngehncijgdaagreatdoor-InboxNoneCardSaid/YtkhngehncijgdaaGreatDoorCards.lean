/-
  DERIVED. GIVEN WITH THE SEED: THE CARDS: each row of YtkhngehncijgdaaGreatDoorRows.lean that lists a variable, with what it lists TIED to the program's text (the seventh form; the later family's looks); each row that meets fmt, with fmt's text TOLD by the authors' own Lean function (tested against real Go, not proved from fmt's source: count such statements apart). THE CARD IS WHAT COUNTS. Prove the row's statement (the work); the ties are given (YtkhngehncijgdaaGreatDoorTie.lean); close each card by the builder's one call (the guide's Derived/Test/ToyasCard.lean, 'card_holds'). Laid BY PROGRAM, IN A SANDBOX (cutbox-door.mjs). By AI agents, Wed Nov 11 2026. No macro, syntax, notation, axiom, sorry.
-/
import Derived.Test.YtkhngehncijgdaaGreatDoorRows
import GoSem.ClaimSeven
namespace Go.Proofs.YtkhngehncijgdaaGreatDoor
namespace Rows

/-- THE TIED CARD OF 'footbridgelaw18.OutboxNone'. -/
def outboxNoneCard : Claim7 := { stood := { row := outboxNoneRow, standIns := [], harness := (true, "3a30f63209018d27116de904354011f9cd69165a7d80ff358032b6e39a605e20"), looks := true }, kinds := [], alts := [], laidByText := true, laidKinds := [.data, .handle, .pinned], laidTests := true, laidLooks := .later }
def OutboxNoneCardSaid : Prop := Claim7.holds Tryz.pinned (.plain (OpenSpec.ofChange outboxNoneSpec)) outboxNoneCard

/-- THE TIED CARD OF 'footbridgelaw19.InboxNone'. -/
def inboxNoneCard : Claim7 := { stood := { row := inboxNoneRow, standIns := [], harness := (true, "3a30f63209018d27116de904354011f9cd69165a7d80ff358032b6e39a605e20"), looks := true }, kinds := [], alts := [], laidByText := true, laidKinds := [.data, .handle, .pinned], laidTests := true, laidLooks := .later }
def InboxNoneCardSaid : Prop := Claim7.holds Tryz.pinned (.plain (OpenSpec.ofChange inboxNoneSpec)) inboxNoneCard

/-- THE SECOND FORM's CARD OF 'footbridgelaw18.OutboxNone'. -/
def outboxNoneUptoCard : Claim7 := { stood := { row := outboxNoneUptoRow, standIns := [], harness := (true, "3a30f63209018d27116de904354011f9cd69165a7d80ff358032b6e39a605e20"), looks := true }, kinds := [], alts := [], laidByText := true, laidKinds := [.data, .handle, .pinned], laidTests := true, laidLooks := .later }
def OutboxNoneUptoCardSaid : Prop := Claim7.holds Tryz.pinned (.plain (OpenSpec.upto outboxNoneSpec)) outboxNoneUptoCard

/-- THE SECOND FORM's CARD OF 'footbridgelaw19.InboxNone'. -/
def inboxNoneUptoCard : Claim7 := { stood := { row := inboxNoneUptoRow, standIns := [], harness := (true, "3a30f63209018d27116de904354011f9cd69165a7d80ff358032b6e39a605e20"), looks := true }, kinds := [], alts := [], laidByText := true, laidKinds := [.data, .handle, .pinned], laidTests := true, laidLooks := .later }
def InboxNoneUptoCardSaid : Prop := Claim7.holds Tryz.pinned (.plain (OpenSpec.upto inboxNoneSpec)) inboxNoneUptoCard
end Rows
end Go.Proofs.YtkhngehncijgdaaGreatDoor
