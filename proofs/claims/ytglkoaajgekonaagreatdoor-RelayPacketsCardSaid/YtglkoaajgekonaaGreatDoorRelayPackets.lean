/- RelayPackets: the law footbridge/footbridgelaw40.RelayPackets answers true at every input: its example calls go as they should, and on what is none each function gives its value for none. No condition. -/
import Derived.Test.YtglkoaajgekonaaGreatDoorRows
import Derived.Test.YtglkoaajgekonaaGreatDoorTie
import Derived.Test.YtglkoaajgekonaaGreatDoorCards
import Derived.Test.YtglkoaajgekonaaGreatDoorTab
import Derived.Test.YtglkoaajgekonaaGreatDoorSXZ
import Derived.Test.YtglkoaajgekonaaGreatDoorRelayPacketsL
import Derived.Test.YtglkoaajgekonaaGreatDoorRZP
import Derived.LaidMore
import Derived.LaidHandle
import Derived.Deep.DeepLaidRun
import Derived.Lay
import Derived.SevenTiedAt
import Derived.Stop.Joined
import Derived.JoinedOf
namespace Go.Proofs.YtglkoaajgekonaaGreatDoor
open Go.SX Go.ChangeShapes Go.WideShapes Go.ChangeAt Go.RowKit
theorem relayPackets_k1 : (Tryz.pinned).checked.prog.funcNamed Rows.relayPacketsRow.func = some 5 := by kernel_rfl
theorem relayPackets_k3 : Tryz.f5.isInstance (Tryz.pinned).checked.prog Rows.relayPacketsRow.origin Rows.relayPacketsRow.targs := of_decide_eq_true (by kernel_rfl)
theorem relayPackets_k4 : Tryz.f5.isWrapper (Tryz.pinned).checked.prog Rows.relayPacketsRow.wrapper Rows.relayPacketsRow.mainSum := by unfold Func.isWrapper; first | (rw [if_pos (by decide +kernel)]; kernel_rfl) | (rw [if_neg (by decide +kernel)]; exact ⟨rfl, rfl⟩)
theorem relayPackets_k2 : joinedFacts (Tryz.pinned).checked.prog 5 Tryz.f5 Rows.relayPacketsSpec Rows.relayPacketsRow = true := by kernel_rfl
theorem relayPackets_holds : Rows.RelayPacketsSaid :=
 OpenClaim.holds_of_wide 5 Tryz.f5 rfl rfl rfl rfl rfl rfl rfl ⟨rfl, rfl, rfl, rfl, rfl⟩ rfl rfl rfl rfl rfl relayPackets_k1 Tryz.func5 relayPackets_k2 relayPackets_k3 relayPackets_k4
  (fun os started H enc _ => relayPackets_lifted os started H enc)
theorem relayPackets_k5 : Rows.relayPacketsRow.wfByText (OpenSpec.ofChange Rows.relayPacketsSpec) = true := by kernel_rfl
theorem relayPackets_k6 : (Tryz.pinned).checked.prog.mainIs = some (true, "702b704430174686c53ed038b313fc9cf1540477b17af910179fb7ed9a9eb773".toList) := by kernel_rfl
theorem relayPackets_k7 : false = (Tryz.pinned).checked.prog.looks [] := by kernel_rfl
theorem relayPackets_k8 : (Tryz.pinned).checked.prog.funcNamed "footbridge/footbridgelaw40.RelayPackets" = some 5 := by kernel_rfl
theorem relayPackets_k9 : ([27, 47, 9].all fun u => !(Tryz.pinned).checked.prog.wantsStandIn u) = true := by kernel_rfl
theorem relayPackets_card : Rows.RelayPacketsCardSaid :=
 Claim7.holds_tied_plain_at .later [] [.data, .pinned] true (true, "702b704430174686c53ed038b313fc9cf1540477b17af910179fb7ed9a9eb773") false relayPackets_holds (fun _ h => by cases h) relayPackets_k5 (fun _ h => by cases h) relayPackets_row_tie rfl ⟨rfl, rfl⟩ relayPackets_k6 rfl
  (fun f fn hf hfn => by
   obtain rfl : f = 5 := Option.some.inj (relayPackets_k8.symm.trans hf) |>.symm
   obtain rfl : fn = Tryz.f5 := (Option.some.inj (Tryz.func5.symm.trans hfn)).symm
   exact ⟨relayPackets_k7, fun j t ht => by
    rw [Tryz.params5] at ht
    have hm : t ∈ [27, 47, 9] := by simpa using Array.mem_of_getElem? ht
    simpa using List.all_eq_true.1 relayPackets_k9 t hm⟩)
  (by kernel_rfl)
#print axioms relayPackets_card
end Go.Proofs.YtglkoaajgekonaaGreatDoor
-- SQUEEZED
