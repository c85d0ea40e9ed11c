/- TimeoutPassed: the law footbridge/footbridgelaw21.TimeoutPassed answers true at every input: its example calls go as they should, and on what is none each function gives its value for none. No condition. -/
import Derived.Test.YtlbaddmfdbndkaaGreatDoorRows
import Derived.Test.YtlbaddmfdbndkaaGreatDoorTie
import Derived.Test.YtlbaddmfdbndkaaGreatDoorCards
import Derived.Test.YtlbaddmfdbndkaaGreatDoorTab
import Derived.Test.YtlbaddmfdbndkaaGreatDoorSXZ
import Derived.Test.YtlbaddmfdbndkaaGreatDoorTimeoutPassedL
import Derived.Test.YtlbaddmfdbndkaaGreatDoorTG
import Derived.LaidMore
import Derived.LaidHandle
import Derived.Deep.DeepLaidRun
import Derived.Lay
import Derived.SevenTiedAt
import Derived.Stop.Joined
import Derived.JoinedOf
namespace Go.Proofs.YtlbaddmfdbndkaaGreatDoor
open Go.SX Go.ChangeShapes Go.WideShapes Go.ChangeAt Go.RowKit

theorem timeoutPassed_k1 : (Tryz.pinned).checked.prog.funcNamed Rows.timeoutPassedRow.func = some 4 := by kernel_rfl
theorem timeoutPassed_k2 : joinedFacts (Tryz.pinned).checked.prog 4 Tryz.f4 Rows.timeoutPassedSpec Rows.timeoutPassedRow = true := by kernel_rfl
theorem timeoutPassed_k3 : Tryz.f4.isInstance (Tryz.pinned).checked.prog Rows.timeoutPassedRow.origin Rows.timeoutPassedRow.targs := of_decide_eq_true (by kernel_rfl)
theorem timeoutPassed_k4 : Tryz.f4.isWrapper (Tryz.pinned).checked.prog Rows.timeoutPassedRow.wrapper Rows.timeoutPassedRow.mainSum := by unfold Func.isWrapper; first | (rw [if_pos (by decide +kernel)]; kernel_rfl) | (rw [if_neg (by decide +kernel)]; exact ⟨rfl, rfl⟩)

theorem timeoutPassed_holds : Rows.TimeoutPassedSaid :=
  OpenClaim.holds_of_wide 4 Tryz.f4 rfl rfl rfl rfl rfl rfl rfl ⟨rfl, rfl, rfl, rfl, rfl⟩ rfl rfl rfl rfl rfl timeoutPassed_k1 Tryz.func4 timeoutPassed_k2 timeoutPassed_k3 timeoutPassed_k4
    (fun os started H enc _ => timeoutPassed_lifted os started H enc)

theorem timeoutPassed_card : Rows.TimeoutPassedCardSaid :=
  Claim7.holds_tied_plain_at .later [] [.data, .handle, .pinned] true (true, "9487f256a2ce278fb9ea4de11ba5ffa2cf040a66018e750e8f80ab8055d46beb") true timeoutPassed_holds (fun _ h => by cases h) (by kernel_rfl) (fun _ h => by cases h) timeoutPassed_row_tie rfl ⟨rfl, rfl⟩ (by kernel_rfl) rfl
    (fun f fn hf hfn => by
      obtain rfl : f = 4 := Option.some.inj ((show Tryz.prog.funcNamed "footbridge/footbridgelaw21.TimeoutPassed" = some 4 by kernel_rfl).symm.trans hf) |>.symm
      obtain rfl : fn = Tryz.f4 := (Option.some.inj (Tryz.func4.symm.trans hfn)).symm
      exact ⟨by kernel_rfl, fun j t ht => by
        rw [Tryz.params4] at ht
        have hm : t ∈ [23, 32, 32] := by simpa using Array.mem_of_getElem? ht
        have hall : ([23, 32, 32].all fun u => !Tryz.prog.wantsStandIn u) = true := by kernel_rfl
        exact (show Tryz.prog.wantsStandIn t = false by simpa using List.all_eq_true.1 hall t hm)⟩)
    (by kernel_rfl)
#print axioms timeoutPassed_card
end Go.Proofs.YtlbaddmfdbndkaaGreatDoor
