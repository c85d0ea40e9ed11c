/- RefundNone: the law footbridge/footbridgelaw32.RefundNone answers true at every input: its example calls go as they should, and on what is none each function gives its value for none. No condition. -/
import Derived.Test.YthapoblhhlclnaaGreatDoorRows
import Derived.Test.YthapoblhhlclnaaGreatDoorTie
import Derived.Test.YthapoblhhlclnaaGreatDoorCards
import Derived.Test.YthapoblhhlclnaaGreatDoorTab
import Derived.Test.YthapoblhhlclnaaGreatDoorSXZ
import Derived.Test.YthapoblhhlclnaaGreatDoorRefundNoneL
import Derived.LaidMore
import Derived.LaidHandle
import Derived.Deep.DeepLaidRun
import Derived.Lay
import Derived.SevenTiedAt
import Derived.Stop.Joined
import Derived.JoinedOf
namespace Go.Proofs.YthapoblhhlclnaaGreatDoor
open Go.SX Go.ChangeShapes Go.WideShapes Go.ChangeAt Go.RowKit

theorem refundNone_k1 : (Tryz.pinned).checked.prog.funcNamed Rows.refundNoneRow.func = some 3 := by kernel_rfl
theorem refundNone_k2 : joinedFacts (Tryz.pinned).checked.prog 3 Tryz.f3 Rows.refundNoneSpec Rows.refundNoneRow = true := by kernel_rfl
theorem refundNone_k3 : Tryz.f3.isInstance (Tryz.pinned).checked.prog Rows.refundNoneRow.origin Rows.refundNoneRow.targs := of_decide_eq_true (by kernel_rfl)
theorem refundNone_k4 : Tryz.f3.isWrapper (Tryz.pinned).checked.prog Rows.refundNoneRow.wrapper Rows.refundNoneRow.mainSum := by unfold Func.isWrapper; first | (rw [if_pos (by decide +kernel)]; kernel_rfl) | (rw [if_neg (by decide +kernel)]; exact ⟨rfl, rfl⟩)

theorem refundNone_holds : Rows.RefundNoneSaid :=
  OpenClaim.holds_of_wide 3 Tryz.f3 rfl rfl rfl rfl rfl rfl rfl ⟨rfl, rfl, rfl, rfl, rfl⟩ rfl rfl rfl rfl rfl refundNone_k1 Tryz.func3 refundNone_k2 refundNone_k3 refundNone_k4
    (fun os started H enc _ => refundNone_lifted os started H enc)

theorem refundNone_card : Rows.RefundNoneCardSaid :=
  Claim7.holds_tied_plain_at .later [] [.data, .handle, .pinned] true (true, "6fa44abe39853b542778f7062abeeda7537e93c76b17daac1c910a87c9e4dc83") true refundNone_holds (fun _ h => by cases h) (by kernel_rfl) (fun _ h => by cases h) refundNone_row_tie rfl ⟨rfl, rfl⟩ (by kernel_rfl) rfl
    (fun f fn hf hfn => by
      obtain rfl : f = 3 := Option.some.inj ((show Tryz.prog.funcNamed "footbridge/footbridgelaw32.RefundNone" = some 3 by kernel_rfl).symm.trans hf) |>.symm
      obtain rfl : fn = Tryz.f3 := (Option.some.inj (Tryz.func3.symm.trans hfn)).symm
      exact ⟨by kernel_rfl, fun j t ht => by
        rw [Tryz.params3] at ht
        have hm : t ∈ [28] := by simpa using Array.mem_of_getElem? ht
        have hall : ([28].all fun u => !Tryz.prog.wantsStandIn u) = true := by kernel_rfl
        exact (show Tryz.prog.wantsStandIn t = false by simpa using List.all_eq_true.1 hall t hm)⟩)
    (by kernel_rfl)
#print axioms refundNone_card
end Go.Proofs.YthapoblhhlclnaaGreatDoor
