/- InboxNone: the law footbridge/footbridgelaw19.InboxNone answers true at every input: its example calls go as they should, and on what is none each function gives its value for none. No condition. -/
import Derived.Test.YtkhngehncijgdaaGreatDoorRows
import Derived.Test.YtkhngehncijgdaaGreatDoorTie
import Derived.Test.YtkhngehncijgdaaGreatDoorCards
import Derived.Test.YtkhngehncijgdaaGreatDoorTab
import Derived.Test.YtkhngehncijgdaaGreatDoorSXZ
import Derived.Test.YtkhngehncijgdaaGreatDoorInboxNoneL
import Derived.Test.YtkhngehncijgdaaGreatDoorIB
import Derived.LaidMore
import Derived.LaidHandle
import Derived.Deep.DeepLaidRun
import Derived.Lay
import Derived.SevenTiedAt
import Derived.Stop.Joined
import Derived.JoinedOf
namespace Go.Proofs.YtkhngehncijgdaaGreatDoor
open Go.SX Go.ChangeShapes Go.WideShapes Go.ChangeAt Go.RowKit

theorem inboxNone_k1 : (Tryz.pinned).checked.prog.funcNamed Rows.inboxNoneRow.func = some 4 := by kernel_rfl
theorem inboxNone_k2 : joinedFacts (Tryz.pinned).checked.prog 4 Tryz.f4 Rows.inboxNoneSpec Rows.inboxNoneRow = true := by kernel_rfl
theorem inboxNone_k3 : Tryz.f4.isInstance (Tryz.pinned).checked.prog Rows.inboxNoneRow.origin Rows.inboxNoneRow.targs := of_decide_eq_true (by kernel_rfl)
theorem inboxNone_k4 : Tryz.f4.isWrapper (Tryz.pinned).checked.prog Rows.inboxNoneRow.wrapper Rows.inboxNoneRow.mainSum := by unfold Func.isWrapper; first | (rw [if_pos (by decide +kernel)]; kernel_rfl) | (rw [if_neg (by decide +kernel)]; exact ⟨rfl, rfl⟩)

theorem inboxNone_holds : Rows.InboxNoneSaid :=
  OpenClaim.holds_of_wide 4 Tryz.f4 rfl rfl rfl rfl rfl rfl rfl ⟨rfl, rfl, rfl, rfl, rfl⟩ rfl rfl rfl rfl rfl inboxNone_k1 Tryz.func4 inboxNone_k2 inboxNone_k3 inboxNone_k4
    (fun os started H enc _ => inboxNone_lifted os started H enc)

theorem inboxNone_card : Rows.InboxNoneCardSaid :=
  Claim7.holds_tied_plain_at .later [] [.data, .handle, .pinned] true (true, "3a30f63209018d27116de904354011f9cd69165a7d80ff358032b6e39a605e20") true inboxNone_holds (fun _ h => by cases h) (by kernel_rfl) (fun _ h => by cases h) inboxNone_row_tie rfl ⟨rfl, rfl⟩ (by kernel_rfl) rfl
    (fun f fn hf hfn => by
      obtain rfl : f = 4 := Option.some.inj ((show Tryz.prog.funcNamed "footbridge/footbridgelaw19.InboxNone" = some 4 by kernel_rfl).symm.trans hf) |>.symm
      obtain rfl : fn = Tryz.f4 := (Option.some.inj (Tryz.func4.symm.trans hfn)).symm
      exact ⟨by kernel_rfl, fun j t ht => by
        rw [Tryz.params4] at ht
        have hm : t ∈ [25, 9] := by simpa using Array.mem_of_getElem? ht
        have hall : ([25, 9].all fun u => !Tryz.prog.wantsStandIn u) = true := by kernel_rfl
        exact (show Tryz.prog.wantsStandIn t = false by simpa using List.all_eq_true.1 hall t hm)⟩)
    (by kernel_rfl)
#print axioms inboxNone_card
end Go.Proofs.YtkhngehncijgdaaGreatDoor
