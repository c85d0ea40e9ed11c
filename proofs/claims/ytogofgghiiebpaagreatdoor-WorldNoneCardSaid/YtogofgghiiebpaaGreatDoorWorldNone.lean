/- WorldNone: the law footbridge/footbridgelaw41.WorldNone answers true at every input: its example calls go as they should, and on what is none each function gives its value for none. No condition. -/
import Derived.Test.YtogofgghiiebpaaGreatDoorRows
import Derived.Test.YtogofgghiiebpaaGreatDoorTie
import Derived.Test.YtogofgghiiebpaaGreatDoorCards
import Derived.Test.YtogofgghiiebpaaGreatDoorTab
import Derived.Test.YtogofgghiiebpaaGreatDoorSXZ
import Derived.Test.YtogofgghiiebpaaGreatDoorWorldNoneL
import Derived.Test.YtogofgghiiebpaaGreatDoorWorldNoneK
import Derived.LaidMore
import Derived.LaidHandle
import Derived.Deep.DeepLaidRun
import Derived.Lay
import Derived.SevenTiedAt
import Derived.Stop.Joined
import Derived.JoinedOf
namespace Go.Proofs.YtogofgghiiebpaaGreatDoor
open Go.SX Go.ChangeShapes Go.WideShapes Go.ChangeAt Go.RowKit

theorem worldNone_k1 : (Tryz.pinned).checked.prog.funcNamed Rows.worldNoneRow.func = some 3 := by kernel_rfl
theorem worldNone_k3 : Tryz.f3.isInstance (Tryz.pinned).checked.prog Rows.worldNoneRow.origin Rows.worldNoneRow.targs := of_decide_eq_true (by kernel_rfl)
theorem worldNone_k4 : Tryz.f3.isWrapper (Tryz.pinned).checked.prog Rows.worldNoneRow.wrapper Rows.worldNoneRow.mainSum := by unfold Func.isWrapper; first | (rw [if_pos (by decide +kernel)]; kernel_rfl) | (rw [if_neg (by decide +kernel)]; exact ⟨rfl, rfl⟩)
theorem worldNone_ip : (Tryz.pinned).checked.prog.inPlace 3 = Rows.worldNoneRow.inPlace := by unfold Program.inPlace; rw [worldNone_cl]; kernel_rfl
theorem worldNone_uf : (Tryz.pinned).checked.prog.unfollowed 3 = Rows.worldNoneRow.unfollowed := by unfold Program.unfollowed; rw [worldNone_cl]; kernel_rfl
theorem worldNone_rc : (Tryz.pinned).checked.prog.recurses 3 = Rows.worldNoneRow.recurses := by unfold Program.recurses; rw [worldNone_uf]; kernel_rfl
theorem worldNone_vn : (Tryz.pinned).checked.prog.varsNamed 3 = Rows.worldNoneRow.named := by unfold Program.varsNamed; rw [worldNone_cl]; kernel_rfl
theorem worldNone_lo : laidOutB (Tryz.pinned).checked.prog = true := worldNone_laidOut
theorem worldNone_k2 : joinedFacts (Tryz.pinned).checked.prog 3 Tryz.f3 Rows.worldNoneSpec Rows.worldNoneRow = true := by
  unfold joinedFacts
  rw [worldNone_ip, worldNone_uf, worldNone_rc, worldNone_vn, worldNone_lo]
  kernel_rfl
theorem worldNone_holds : Rows.WorldNoneSaid :=
  OpenClaim.holds_of_wide 3 Tryz.f3 rfl rfl rfl rfl rfl rfl rfl ⟨rfl, rfl, rfl, rfl, rfl⟩ rfl rfl rfl rfl rfl worldNone_k1 Tryz.func3 worldNone_k2 worldNone_k3 worldNone_k4
    (fun os started H enc _ => worldNone_lifted os started H enc)

theorem worldNone_k5 : Rows.worldNoneRow.wfByText (OpenSpec.ofChange Rows.worldNoneSpec) = true := by kernel_rfl
theorem worldNone_k6 : (Tryz.pinned).checked.prog.mainIs = some (true, "44c75217ebb795642817ffb29bf929b98dd055b0c11dc190106ca03c27130338".toList) := by kernel_rfl
theorem worldNone_k7 : true = (Tryz.pinned).checked.prog.looks [] := by kernel_rfl
theorem worldNone_k8 : (Tryz.pinned).checked.prog.funcNamed "footbridge/footbridgelaw41.WorldNone" = some 3 := by kernel_rfl
theorem worldNone_k9 : ([23].all fun u => !(Tryz.pinned).checked.prog.wantsStandIn u) = true := by kernel_rfl
theorem worldNone_card : Rows.WorldNoneCardSaid :=
  Claim7.holds_tied_plain_at .later [] [.data, .handle, .pinned] true (true, "44c75217ebb795642817ffb29bf929b98dd055b0c11dc190106ca03c27130338") true worldNone_holds (fun _ h => by cases h) worldNone_k5 (fun _ h => by cases h) worldNone_row_tie rfl ⟨rfl, rfl⟩ worldNone_k6 rfl
    (fun f fn hf hfn => by
      obtain rfl : f = 3 := Option.some.inj (worldNone_k8.symm.trans hf) |>.symm
      obtain rfl : fn = Tryz.f3 := (Option.some.inj (Tryz.func3.symm.trans hfn)).symm
      exact ⟨worldNone_k7, fun j t ht => by
        rw [Tryz.params3] at ht
        have hm : t ∈ [23] := by simpa using Array.mem_of_getElem? ht
        simpa using List.all_eq_true.1 worldNone_k9 t hm⟩)
    (show false = ((Tryz.pinned).checked.prog.goesFrom "footbridge/footbridgelaw41.WorldNone" || false) by unfold Program.goesFrom; rw [worldNone_k8, Option.any_some, worldNone_gf]; rfl)
#print axioms worldNone_card
end Go.Proofs.YtogofgghiiebpaaGreatDoor
