/- ChannelPuts: the law footbridge/footbridgelaw16.ChannelPuts answers true at every input: its example calls go as they should, and on what is none each function gives its value for none. No condition. -/
import Derived.Test.YthapoblhhlclnaaGreatDoorRows
import Derived.Test.YthapoblhhlclnaaGreatDoorTie
import Derived.Test.YthapoblhhlclnaaGreatDoorCards
import Derived.Test.YthapoblhhlclnaaGreatDoorTab
import Derived.Test.YthapoblhhlclnaaGreatDoorSXZ
import Derived.Test.YthapoblhhlclnaaGreatDoorChannelPutsL
import Derived.Test.YthapoblhhlclnaaGreatDoorHP
import Derived.LaidMore
import Derived.LaidHandle
import Derived.Deep.DeepLaidRun
import Derived.Lay
import Derived.SevenTiedAt
import Derived.Stop.Joined
import Derived.JoinedOf
namespace Go.Proofs.YthapoblhhlclnaaGreatDoor
open Go.SX Go.ChangeShapes Go.WideShapes Go.ChangeAt Go.RowKit

theorem channelPuts_k1 : (Tryz.pinned).checked.prog.funcNamed Rows.channelPutsRow.func = some 5 := by kernel_rfl
theorem channelPuts_k2 : joinedFacts (Tryz.pinned).checked.prog 5 Tryz.f5 Rows.channelPutsSpec Rows.channelPutsRow = true := by kernel_rfl
theorem channelPuts_k3 : Tryz.f5.isInstance (Tryz.pinned).checked.prog Rows.channelPutsRow.origin Rows.channelPutsRow.targs := of_decide_eq_true (by kernel_rfl)
theorem channelPuts_k4 : Tryz.f5.isWrapper (Tryz.pinned).checked.prog Rows.channelPutsRow.wrapper Rows.channelPutsRow.mainSum := by unfold Func.isWrapper; first | (rw [if_pos (by decide +kernel)]; kernel_rfl) | (rw [if_neg (by decide +kernel)]; exact ⟨rfl, rfl⟩)

theorem channelPuts_holds : Rows.ChannelPutsSaid :=
  OpenClaim.holds_of_wide 5 Tryz.f5 rfl rfl rfl rfl rfl rfl rfl ⟨rfl, rfl, rfl, rfl, rfl⟩ rfl rfl rfl rfl rfl channelPuts_k1 Tryz.func5 channelPuts_k2 channelPuts_k3 channelPuts_k4
    (fun os started H enc _ => channelPuts_lifted os started H enc)

theorem channelPuts_card : Rows.ChannelPutsCardSaid :=
  Claim7.holds_tied_plain_at .later [] [.data, .handle, .pinned] true (true, "6fa44abe39853b542778f7062abeeda7537e93c76b17daac1c910a87c9e4dc83") true channelPuts_holds (fun _ h => by cases h) (by kernel_rfl) (fun _ h => by cases h) channelPuts_row_tie rfl ⟨rfl, rfl⟩ (by kernel_rfl) rfl
    (fun f fn hf hfn => by
      obtain rfl : f = 5 := Option.some.inj ((show Tryz.prog.funcNamed "footbridge/footbridgelaw16.ChannelPuts" = some 5 by kernel_rfl).symm.trans hf) |>.symm
      obtain rfl : fn = Tryz.f5 := (Option.some.inj (Tryz.func5.symm.trans hfn)).symm
      exact ⟨by kernel_rfl, fun j t ht => by
        rw [Tryz.params5] at ht
        have hm : t ∈ [36] := by simpa using Array.mem_of_getElem? ht
        have hall : ([36].all fun u => !Tryz.prog.wantsStandIn u) = true := by kernel_rfl
        exact (show Tryz.prog.wantsStandIn t = false by simpa using List.all_eq_true.1 hall t hm)⟩)
    (by kernel_rfl)
#print axioms channelPuts_card
end Go.Proofs.YthapoblhhlclnaaGreatDoor
