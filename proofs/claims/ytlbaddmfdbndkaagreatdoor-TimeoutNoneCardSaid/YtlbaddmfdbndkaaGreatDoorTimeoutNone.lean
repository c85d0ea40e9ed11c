/- TimeoutNone: the law footbridge/footbridgelaw21.TimeoutNone answers true at every input: its example calls go as they should, and on what is none each function gives its value for none. No condition. -/
import Derived.Test.YtlbaddmfdbndkaaGreatDoorRows
import Derived.Test.YtlbaddmfdbndkaaGreatDoorTie
import Derived.Test.YtlbaddmfdbndkaaGreatDoorCards
import Derived.Test.YtlbaddmfdbndkaaGreatDoorTab
import Derived.Test.YtlbaddmfdbndkaaGreatDoorSXZ
import Derived.Test.YtlbaddmfdbndkaaGreatDoorTimeoutNoneL
import Derived.Test.YtlbaddmfdbndkaaGreatDoorTN
import Derived.LaidMore
import Derived.LaidHandle
import Derived.Deep.DeepLaidRun
import Derived.Lay
import Derived.SevenTiedAt
import Derived.Stop.Joined
import Derived.JoinedOf
namespace Go.Proofs.YtlbaddmfdbndkaaGreatDoor
open Go.SX Go.ChangeShapes Go.WideShapes Go.ChangeAt Go.RowKit

theorem timeoutNone_k1 : (Tryz.pinned).checked.prog.funcNamed Rows.timeoutNoneRow.func = some 3 := by kernel_rfl
theorem timeoutNone_k2 : joinedFacts (Tryz.pinned).checked.prog 3 Tryz.f3 Rows.timeoutNoneSpec Rows.timeoutNoneRow = true := by kernel_rfl
theorem timeoutNone_k3 : Tryz.f3.isInstance (Tryz.pinned).checked.prog Rows.timeoutNoneRow.origin Rows.timeoutNoneRow.targs := of_decide_eq_true (by kernel_rfl)
theorem timeoutNone_k4 : Tryz.f3.isWrapper (Tryz.pinned).checked.prog Rows.timeoutNoneRow.wrapper Rows.timeoutNoneRow.mainSum := by unfold Func.isWrapper; first | (rw [if_pos (by decide +kernel)]; kernel_rfl) | (rw [if_neg (by decide +kernel)]; exact ⟨rfl, rfl⟩)

theorem timeoutNone_holds : Rows.TimeoutNoneSaid :=
  OpenClaim.holds_of_wide 3 Tryz.f3 rfl rfl rfl rfl rfl rfl rfl ⟨rfl, rfl, rfl, rfl, rfl⟩ rfl rfl rfl rfl rfl timeoutNone_k1 Tryz.func3 timeoutNone_k2 timeoutNone_k3 timeoutNone_k4
    (fun os started H enc _ => timeoutNone_lifted os started H enc)

theorem timeoutNone_card : Rows.TimeoutNoneCardSaid :=
  Claim7.holds_tied_plain_at .later [] [.data, .handle, .pinned] true (true, "9487f256a2ce278fb9ea4de11ba5ffa2cf040a66018e750e8f80ab8055d46beb") true timeoutNone_holds (fun _ h => by cases h) (by kernel_rfl) (fun _ h => by cases h) timeoutNone_row_tie rfl ⟨rfl, rfl⟩ (by kernel_rfl) rfl
    (fun f fn hf hfn => by
      obtain rfl : f = 3 := Option.some.inj ((show Tryz.prog.funcNamed "footbridge/footbridgelaw21.TimeoutNone" = some 3 by kernel_rfl).symm.trans hf) |>.symm
      obtain rfl : fn = Tryz.f3 := (Option.some.inj (Tryz.func3.symm.trans hfn)).symm
      exact ⟨by kernel_rfl, fun j t ht => by
        rw [Tryz.params3] at ht
        have hm : t ∈ [23, 3] := by simpa using Array.mem_of_getElem? ht
        have hall : ([23, 3].all fun u => !Tryz.prog.wantsStandIn u) = true := by kernel_rfl
        exact (show Tryz.prog.wantsStandIn t = false by simpa using List.all_eq_true.1 hall t hm)⟩)
    (by kernel_rfl)
#print axioms timeoutNone_card
end Go.Proofs.YtlbaddmfdbndkaaGreatDoor
