/- RelayUpdates: the law footbridge/footbridgelaw40.RelayUpdates answers true at every input: its example calls go as they should, and on what is none each function gives its value for none. No condition. -/
import Derived.Test.YtglkoaajgekonaaGreatDoorRows
import Derived.Test.YtglkoaajgekonaaGreatDoorTie
import Derived.Test.YtglkoaajgekonaaGreatDoorCards
import Derived.Test.YtglkoaajgekonaaGreatDoorTab
import Derived.Test.YtglkoaajgekonaaGreatDoorSXZ
import Derived.Test.YtglkoaajgekonaaGreatDoorRelayUpdatesL
import Derived.Test.YtglkoaajgekonaaGreatDoorRU
import Derived.LaidMore
import Derived.LaidHandle
import Derived.Deep.DeepLaidRun
import Derived.Lay
import Derived.SevenTiedAt
import Derived.Stop.Joined
import Derived.JoinedOf
namespace Go.Proofs.YtglkoaajgekonaaGreatDoor
open Go.SX Go.ChangeShapes Go.WideShapes Go.ChangeAt Go.RowKit

theorem relayUpdates_k1 : (Tryz.pinned).checked.prog.funcNamed Rows.relayUpdatesRow.func = some 4 := by kernel_rfl
theorem relayUpdates_k3 : Tryz.f4.isInstance (Tryz.pinned).checked.prog Rows.relayUpdatesRow.origin Rows.relayUpdatesRow.targs := of_decide_eq_true (by kernel_rfl)
theorem relayUpdates_k4 : Tryz.f4.isWrapper (Tryz.pinned).checked.prog Rows.relayUpdatesRow.wrapper Rows.relayUpdatesRow.mainSum := by unfold Func.isWrapper; first | (rw [if_pos (by decide +kernel)]; kernel_rfl) | (rw [if_neg (by decide +kernel)]; exact ⟨rfl, rfl⟩)
theorem relayUpdates_k2 : joinedFacts (Tryz.pinned).checked.prog 4 Tryz.f4 Rows.relayUpdatesSpec Rows.relayUpdatesRow = true := by kernel_rfl
theorem relayUpdates_holds : Rows.RelayUpdatesSaid :=
  OpenClaim.holds_of_wide 4 Tryz.f4 rfl rfl rfl rfl rfl rfl rfl ⟨rfl, rfl, rfl, rfl, rfl⟩ rfl rfl rfl rfl rfl relayUpdates_k1 Tryz.func4 relayUpdates_k2 relayUpdates_k3 relayUpdates_k4
    (fun os started H enc _ => relayUpdates_lifted os started H enc)

theorem relayUpdates_k5 : Rows.relayUpdatesRow.wfByText (OpenSpec.ofChange Rows.relayUpdatesSpec) = true := by kernel_rfl
theorem relayUpdates_k6 : (Tryz.pinned).checked.prog.mainIs = some (true, "702b704430174686c53ed038b313fc9cf1540477b17af910179fb7ed9a9eb773".toList) := by kernel_rfl
theorem relayUpdates_k7 : false = (Tryz.pinned).checked.prog.looks [] := by kernel_rfl
theorem relayUpdates_k8 : (Tryz.pinned).checked.prog.funcNamed "footbridge/footbridgelaw40.RelayUpdates" = some 4 := by kernel_rfl
theorem relayUpdates_k9 : ([27, 5].all fun u => !(Tryz.pinned).checked.prog.wantsStandIn u) = true := by kernel_rfl
theorem relayUpdates_card : Rows.RelayUpdatesCardSaid :=
  Claim7.holds_tied_plain_at .later [] [.data, .pinned] true (true, "702b704430174686c53ed038b313fc9cf1540477b17af910179fb7ed9a9eb773") false relayUpdates_holds (fun _ h => by cases h) relayUpdates_k5 (fun _ h => by cases h) relayUpdates_row_tie rfl ⟨rfl, rfl⟩ relayUpdates_k6 rfl
    (fun f fn hf hfn => by
      obtain rfl : f = 4 := Option.some.inj (relayUpdates_k8.symm.trans hf) |>.symm
      obtain rfl : fn = Tryz.f4 := (Option.some.inj (Tryz.func4.symm.trans hfn)).symm
      exact ⟨relayUpdates_k7, fun j t ht => by
        rw [Tryz.params4] at ht
        have hm : t ∈ [27, 5] := by simpa using Array.mem_of_getElem? ht
        simpa using List.all_eq_true.1 relayUpdates_k9 t hm⟩)
    (by kernel_rfl)
#print axioms relayUpdates_card
end Go.Proofs.YtglkoaajgekonaaGreatDoor
