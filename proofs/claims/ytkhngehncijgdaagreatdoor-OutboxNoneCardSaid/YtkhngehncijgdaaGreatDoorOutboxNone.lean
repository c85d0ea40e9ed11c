/- OutboxNone: the law footbridge/footbridgelaw18.OutboxNone answers true at every input: its example calls go as they should, and on what is none each function gives its value for none. No condition. -/
import Derived.Test.YtkhngehncijgdaaGreatDoorRows
import Derived.Test.YtkhngehncijgdaaGreatDoorTie
import Derived.Test.YtkhngehncijgdaaGreatDoorCards
import Derived.Test.YtkhngehncijgdaaGreatDoorTab
import Derived.Test.YtkhngehncijgdaaGreatDoorSXZ
import Derived.Test.YtkhngehncijgdaaGreatDoorOutboxNoneL
import Derived.Test.YtkhngehncijgdaaGreatDoorOB
import Derived.LaidMore
import Derived.LaidHandle
import Derived.Deep.DeepLaidRun
import Derived.Lay
import Derived.SevenTiedAt
import Derived.Stop.Joined
import Derived.JoinedOf
namespace Go.Proofs.YtkhngehncijgdaaGreatDoor
open Go.SX Go.ChangeShapes Go.WideShapes Go.ChangeAt Go.RowKit

theorem outboxNone_k1 : (Tryz.pinned).checked.prog.funcNamed Rows.outboxNoneRow.func = some 3 := by kernel_rfl
theorem outboxNone_k2 : joinedFacts (Tryz.pinned).checked.prog 3 Tryz.f3 Rows.outboxNoneSpec Rows.outboxNoneRow = true := by kernel_rfl
theorem outboxNone_k3 : Tryz.f3.isInstance (Tryz.pinned).checked.prog Rows.outboxNoneRow.origin Rows.outboxNoneRow.targs := of_decide_eq_true (by kernel_rfl)
theorem outboxNone_k4 : Tryz.f3.isWrapper (Tryz.pinned).checked.prog Rows.outboxNoneRow.wrapper Rows.outboxNoneRow.mainSum := by unfold Func.isWrapper; first | (rw [if_pos (by decide +kernel)]; kernel_rfl) | (rw [if_neg (by decide +kernel)]; exact ⟨rfl, rfl⟩)

theorem outboxNone_holds : Rows.OutboxNoneSaid :=
  OpenClaim.holds_of_wide 3 Tryz.f3 rfl rfl rfl rfl rfl rfl rfl ⟨rfl, rfl, rfl, rfl, rfl⟩ rfl rfl rfl rfl rfl outboxNone_k1 Tryz.func3 outboxNone_k2 outboxNone_k3 outboxNone_k4
    (fun os started H enc _ => outboxNone_lifted os started H enc)

theorem outboxNone_card : Rows.OutboxNoneCardSaid :=
  Claim7.holds_tied_plain_at .later [] [.data, .handle, .pinned] true (true, "3a30f63209018d27116de904354011f9cd69165a7d80ff358032b6e39a605e20") true outboxNone_holds (fun _ h => by cases h) (by kernel_rfl) (fun _ h => by cases h) outboxNone_row_tie rfl ⟨rfl, rfl⟩ (by kernel_rfl) rfl
    (fun f fn hf hfn => by
      obtain rfl : f = 3 := Option.some.inj ((show Tryz.prog.funcNamed "footbridge/footbridgelaw18.OutboxNone" = some 3 by kernel_rfl).symm.trans hf) |>.symm
      obtain rfl : fn = Tryz.f3 := (Option.some.inj (Tryz.func3.symm.trans hfn)).symm
      exact ⟨by kernel_rfl, fun j t ht => by
        rw [Tryz.params3] at ht
        have hm : t ∈ [23, 25] := by simpa using Array.mem_of_getElem? ht
        have hall : ([23, 25].all fun u => !Tryz.prog.wantsStandIn u) = true := by kernel_rfl
        exact (show Tryz.prog.wantsStandIn t = false by simpa using List.all_eq_true.1 hall t hm)⟩)
    (by kernel_rfl)
#print axioms outboxNone_card
end Go.Proofs.YtkhngehncijgdaaGreatDoor
