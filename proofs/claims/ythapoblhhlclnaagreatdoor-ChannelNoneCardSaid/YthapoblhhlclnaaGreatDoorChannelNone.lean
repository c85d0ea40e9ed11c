/- ChannelNone: the law footbridge/footbridgelaw16.ChannelNone answers true at every input: its example calls go as they should, and on what is none each function gives its value for none. No condition. -/
import Derived.Test.YthapoblhhlclnaaGreatDoorRows
import Derived.Test.YthapoblhhlclnaaGreatDoorTie
import Derived.Test.YthapoblhhlclnaaGreatDoorCards
import Derived.Test.YthapoblhhlclnaaGreatDoorTab
import Derived.Test.YthapoblhhlclnaaGreatDoorSXZ
import Derived.Test.YthapoblhhlclnaaGreatDoorChannelNoneL
import Derived.Test.YthapoblhhlclnaaGreatDoorHN
import Derived.LaidMore
import Derived.LaidHandle
import Derived.Deep.DeepLaidRun
import Derived.Lay
import Derived.SevenTiedAt
import Derived.Stop.Joined
import Derived.JoinedOf
namespace Go.Proofs.YthapoblhhlclnaaGreatDoor
open Go.SX Go.ChangeShapes Go.WideShapes Go.ChangeAt Go.RowKit

theorem channelNone_k1 : (Tryz.pinned).checked.prog.funcNamed Rows.channelNoneRow.func = some 4 := by kernel_rfl
theorem channelNone_k2 : joinedFacts (Tryz.pinned).checked.prog 4 Tryz.f4 Rows.channelNoneSpec Rows.channelNoneRow = true := by kernel_rfl
theorem channelNone_k3 : Tryz.f4.isInstance (Tryz.pinned).checked.prog Rows.channelNoneRow.origin Rows.channelNoneRow.targs := of_decide_eq_true (by kernel_rfl)
theorem channelNone_k4 : Tryz.f4.isWrapper (Tryz.pinned).checked.prog Rows.channelNoneRow.wrapper Rows.channelNoneRow.mainSum := by unfold Func.isWrapper; first | (rw [if_pos (by decide +kernel)]; kernel_rfl) | (rw [if_neg (by decide +kernel)]; exact ⟨rfl, rfl⟩)

theorem channelNone_holds : Rows.ChannelNoneSaid :=
  OpenClaim.holds_of_wide 4 Tryz.f4 rfl rfl rfl rfl rfl rfl rfl ⟨rfl, rfl, rfl, rfl, rfl⟩ rfl rfl rfl rfl rfl channelNone_k1 Tryz.func4 channelNone_k2 channelNone_k3 channelNone_k4
    (fun os started H enc _ => channelNone_lifted os started H enc)

theorem channelNone_card : Rows.ChannelNoneCardSaid :=
  Claim7.holds_tied_plain_at .later [] [.data, .handle, .pinned] true (true, "6fa44abe39853b542778f7062abeeda7537e93c76b17daac1c910a87c9e4dc83") true channelNone_holds (fun _ h => by cases h) (by kernel_rfl) (fun _ h => by cases h) channelNone_row_tie rfl ⟨rfl, rfl⟩ (by kernel_rfl) rfl
    (fun f fn hf hfn => by
      obtain rfl : f = 4 := Option.some.inj ((show Tryz.prog.funcNamed "footbridge/footbridgelaw16.ChannelNone" = some 4 by kernel_rfl).symm.trans hf) |>.symm
      obtain rfl : fn = Tryz.f4 := (Option.some.inj (Tryz.func4.symm.trans hfn)).symm
      exact ⟨by kernel_rfl, fun j t ht => by
        rw [Tryz.params4] at ht
        have hm : t ∈ [34, 36] := by simpa using Array.mem_of_getElem? ht
        have hall : ([34, 36].all fun u => !Tryz.prog.wantsStandIn u) = true := by kernel_rfl
        exact (show Tryz.prog.wantsStandIn t = false by simpa using List.all_eq_true.1 hall t hm)⟩)
    (by kernel_rfl)
#print axioms channelNone_card
end Go.Proofs.YthapoblhhlclnaaGreatDoor
