/- IncomeNone: the law footbridge/footbridgelaw31.IncomeNone answers true at every input: its example calls go as they should, and on what is none each function gives its value for none. No condition. -/
import Derived.Test.YtjfnajoopgcohaaGreatDoorRows
import Derived.Test.YtjfnajoopgcohaaGreatDoorTie
import Derived.Test.YtjfnajoopgcohaaGreatDoorCards
import Derived.Test.YtjfnajoopgcohaaGreatDoorTab
import Derived.Test.YtjfnajoopgcohaaGreatDoorSXZ
import Derived.Test.YtjfnajoopgcohaaGreatDoorIncomeNoneL
import Derived.LaidMore
import Derived.LaidHandle
import Derived.Deep.DeepLaidRun
import Derived.Lay
import Derived.SevenTiedAt
import Derived.Stop.Joined
import Derived.JoinedOf
namespace Go.Proofs.YtjfnajoopgcohaaGreatDoor
open Go.SX Go.ChangeShapes Go.WideShapes Go.ChangeAt Go.RowKit

theorem incomeNone_holds : Rows.IncomeNoneSaid :=
  OpenClaim.holds_of_wide 3 Tryz.f3 rfl rfl rfl rfl rfl rfl rfl ⟨rfl, rfl, rfl, rfl, rfl⟩ rfl rfl rfl rfl rfl (by kernel_rfl) Tryz.func3 (by kernel_rfl)
    (of_decide_eq_true (by kernel_rfl)) (by unfold Func.isWrapper; first | (rw [if_pos (by decide +kernel)]; kernel_rfl) | (rw [if_neg (by decide +kernel)]; exact ⟨rfl, rfl⟩))
    (fun os started H enc _ => incomeNone_lifted os started H enc)

theorem incomeNone_card : Rows.IncomeNoneCardSaid :=
  Claim7.holds_tied_plain_at .later [] [.data, .pinned] true (true, "c164a53e788d953dc72f89d3874296048aa9d86a83aa5ea0788380309e417a90") true incomeNone_holds (fun _ h => by cases h) (by kernel_rfl) (fun _ h => by cases h) incomeNone_row_tie rfl ⟨rfl, rfl⟩ (by kernel_rfl) rfl
    (fun f fn hf hfn => by
      obtain rfl : f = 3 := Option.some.inj ((show Tryz.prog.funcNamed "footbridge/footbridgelaw31.IncomeNone" = some 3 by kernel_rfl).symm.trans hf) |>.symm
      obtain rfl : fn = Tryz.f3 := (Option.some.inj (Tryz.func3.symm.trans hfn)).symm
      exact ⟨by kernel_rfl, fun j t ht => by
        rw [Tryz.params3] at ht
        have hm : t ∈ [28] := by simpa using Array.mem_of_getElem? ht
        have hall : ([28].all fun u => !Tryz.prog.wantsStandIn u) = true := by kernel_rfl
        exact (show Tryz.prog.wantsStandIn t = false by simpa using List.all_eq_true.1 hall t hm)⟩)
    (by kernel_rfl)
#print axioms incomeNone_card
end Go.Proofs.YtjfnajoopgcohaaGreatDoor
