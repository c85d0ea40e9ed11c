/- ChainNames: the law footbridge/footbridgelaw38.ChainNames answers true at every input: its example calls go as they should, and on what is none each function gives its value for none. No condition. -/
import Derived.Test.YtkhliljbbjapmaaGreatDoorRows
import Derived.Test.YtkhliljbbjapmaaGreatDoorTie
import Derived.Test.YtkhliljbbjapmaaGreatDoorCards
import Derived.Test.YtkhliljbbjapmaaGreatDoorTab
import Derived.Test.YtkhliljbbjapmaaGreatDoorSXZ
import Derived.Test.YtkhliljbbjapmaaGreatDoorChainNamesL
import Derived.Test.YtkhliljbbjapmaaGreatDoorCM
import Derived.LaidMore
import Derived.LaidHandle
import Derived.Deep.DeepLaidRun
import Derived.Lay
import Derived.SevenTiedAt
import Derived.Stop.Joined
import Derived.JoinedOf
namespace Go.Proofs.YtkhliljbbjapmaaGreatDoor
open Go.SX Go.ChangeShapes Go.WideShapes Go.ChangeAt Go.RowKit

theorem chainNames_k1 : (Tryz.pinned).checked.prog.funcNamed Rows.chainNamesRow.func = some 4 := by kernel_rfl
theorem chainNames_k3 : Tryz.f4.isInstance (Tryz.pinned).checked.prog Rows.chainNamesRow.origin Rows.chainNamesRow.targs := of_decide_eq_true (by kernel_rfl)
theorem chainNames_k4 : Tryz.f4.isWrapper (Tryz.pinned).checked.prog Rows.chainNamesRow.wrapper Rows.chainNamesRow.mainSum := by unfold Func.isWrapper; first | (rw [if_pos (by decide +kernel)]; kernel_rfl) | (rw [if_neg (by decide +kernel)]; exact ⟨rfl, rfl⟩)
theorem chainNames_k2 : joinedFacts (Tryz.pinned).checked.prog 4 Tryz.f4 Rows.chainNamesSpec Rows.chainNamesRow = true := by kernel_rfl
theorem chainNames_holds : Rows.ChainNamesSaid :=
  OpenClaim.holds_of_wide 4 Tryz.f4 rfl rfl rfl rfl rfl rfl rfl ⟨rfl, rfl, rfl, rfl, rfl⟩ rfl rfl rfl rfl rfl chainNames_k1 Tryz.func4 chainNames_k2 chainNames_k3 chainNames_k4
    (fun os started H enc _ => chainNames_lifted os started H enc)

theorem chainNames_k5 : Rows.chainNamesRow.wfByText (OpenSpec.ofChange Rows.chainNamesSpec) = true := by kernel_rfl
theorem chainNames_k6 : (Tryz.pinned).checked.prog.mainIs = some (true, "7237c78e0d68a07398ed9b82b298d2c57905cba3043317ebb8fdb7fa2fe71a1f".toList) := by kernel_rfl
theorem chainNames_k7 : false = (Tryz.pinned).checked.prog.looks [] := by kernel_rfl
theorem chainNames_k8 : (Tryz.pinned).checked.prog.funcNamed "footbridge/footbridgelaw38.ChainNames" = some 4 := by kernel_rfl
theorem chainNames_k9 : ([9, 9, 9].all fun u => !(Tryz.pinned).checked.prog.wantsStandIn u) = true := by kernel_rfl
theorem chainNames_card : Rows.ChainNamesCardSaid :=
  Claim7.holds_tied_plain_at .later [] [.data, .pinned] true (true, "7237c78e0d68a07398ed9b82b298d2c57905cba3043317ebb8fdb7fa2fe71a1f") false chainNames_holds (fun _ h => by cases h) chainNames_k5 (fun _ h => by cases h) chainNames_row_tie rfl ⟨rfl, rfl⟩ chainNames_k6 rfl
    (fun f fn hf hfn => by
      obtain rfl : f = 4 := Option.some.inj (chainNames_k8.symm.trans hf) |>.symm
      obtain rfl : fn = Tryz.f4 := (Option.some.inj (Tryz.func4.symm.trans hfn)).symm
      exact ⟨chainNames_k7, fun j t ht => by
        rw [Tryz.params4] at ht
        have hm : t ∈ [9, 9, 9] := by simpa using Array.mem_of_getElem? ht
        simpa using List.all_eq_true.1 chainNames_k9 t hm⟩)
    (by kernel_rfl)
#print axioms chainNames_card
end Go.Proofs.YtkhliljbbjapmaaGreatDoor
