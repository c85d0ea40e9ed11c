/- RelaySteps: the law footbridge/footbridgelaw40.RelaySteps answers true at every input: its example calls go as they should, and on what is none each function gives its value for none. No condition. -/
import Derived.Test.YtglkoaajgekonaaGreatDoorRows
import Derived.Test.YtglkoaajgekonaaGreatDoorTie
import Derived.Test.YtglkoaajgekonaaGreatDoorCards
import Derived.Test.YtglkoaajgekonaaGreatDoorTab
import Derived.Test.YtglkoaajgekonaaGreatDoorSXZ
import Derived.Test.YtglkoaajgekonaaGreatDoorRelayStepsL
import Derived.Test.YtglkoaajgekonaaGreatDoorRZZ
import Derived.LaidMore
import Derived.LaidHandle
import Derived.Deep.DeepLaidRun
import Derived.Lay
import Derived.SevenTiedAt
import Derived.Stop.Joined
import Derived.JoinedOf
namespace Go.Proofs.YtglkoaajgekonaaGreatDoor
open Go.SX Go.ChangeShapes Go.WideShapes Go.ChangeAt Go.RowKit

theorem relaySteps_k1 : (Tryz.pinned).checked.prog.funcNamed Rows.relayStepsRow.func = some 3 := by kernel_rfl
theorem relaySteps_k3 : Tryz.f3.isInstance (Tryz.pinned).checked.prog Rows.relayStepsRow.origin Rows.relayStepsRow.targs := of_decide_eq_true (by kernel_rfl)
theorem relaySteps_k4 : Tryz.f3.isWrapper (Tryz.pinned).checked.prog Rows.relayStepsRow.wrapper Rows.relayStepsRow.mainSum := by unfold Func.isWrapper; first | (rw [if_pos (by decide +kernel)]; kernel_rfl) | (rw [if_neg (by decide +kernel)]; exact ⟨rfl, rfl⟩)
theorem relaySteps_k2 : joinedFacts (Tryz.pinned).checked.prog 3 Tryz.f3 Rows.relayStepsSpec Rows.relayStepsRow = true := by kernel_rfl
theorem relaySteps_holds : Rows.RelayStepsSaid :=
  OpenClaim.holds_of_wide 3 Tryz.f3 rfl rfl rfl rfl rfl rfl rfl ⟨rfl, rfl, rfl, rfl, rfl⟩ rfl rfl rfl rfl rfl relaySteps_k1 Tryz.func3 relaySteps_k2 relaySteps_k3 relaySteps_k4
    (fun os started H enc _ => relaySteps_lifted os started H enc)

theorem relaySteps_k5 : Rows.relayStepsRow.wfByText (OpenSpec.ofChange Rows.relayStepsSpec) = true := by kernel_rfl
theorem relaySteps_k6 : (Tryz.pinned).checked.prog.mainIs = some (true, "702b704430174686c53ed038b313fc9cf1540477b17af910179fb7ed9a9eb773".toList) := by kernel_rfl
theorem relaySteps_k7 : false = (Tryz.pinned).checked.prog.looks [] := by kernel_rfl
theorem relaySteps_k8 : (Tryz.pinned).checked.prog.funcNamed "footbridge/footbridgelaw40.RelaySteps" = some 3 := by kernel_rfl
theorem relaySteps_k9 : ([3, 9, 9].all fun u => !(Tryz.pinned).checked.prog.wantsStandIn u) = true := by kernel_rfl
theorem relaySteps_card : Rows.RelayStepsCardSaid :=
  Claim7.holds_tied_plain_at .later [] [.data, .pinned] true (true, "702b704430174686c53ed038b313fc9cf1540477b17af910179fb7ed9a9eb773") false relaySteps_holds (fun _ h => by cases h) relaySteps_k5 (fun _ h => by cases h) relaySteps_row_tie rfl ⟨rfl, rfl⟩ relaySteps_k6 rfl
    (fun f fn hf hfn => by
      obtain rfl : f = 3 := Option.some.inj (relaySteps_k8.symm.trans hf) |>.symm
      obtain rfl : fn = Tryz.f3 := (Option.some.inj (Tryz.func3.symm.trans hfn)).symm
      exact ⟨relaySteps_k7, fun j t ht => by
        rw [Tryz.params3] at ht
        have hm : t ∈ [3, 9, 9] := by simpa using Array.mem_of_getElem? ht
        simpa using List.all_eq_true.1 relaySteps_k9 t hm⟩)
    (by kernel_rfl)
#print axioms relaySteps_card
end Go.Proofs.YtglkoaajgekonaaGreatDoor
