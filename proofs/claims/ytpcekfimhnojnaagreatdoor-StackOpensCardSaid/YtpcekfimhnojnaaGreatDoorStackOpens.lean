/- StackOpens: the law footbridge/footbridgelaw36.StackOpens answers true at every input: its example calls go as they should, and on what is none each function gives its value for none. No condition. -/
import Derived.Test.YtpcekfimhnojnaaGreatDoorRows
import Derived.Test.YtpcekfimhnojnaaGreatDoorTie
import Derived.Test.YtpcekfimhnojnaaGreatDoorCards
import Derived.Test.YtpcekfimhnojnaaGreatDoorTab
import Derived.Test.YtpcekfimhnojnaaGreatDoorSXZ
import Derived.Test.YtpcekfimhnojnaaGreatDoorStackOpensL
import Derived.Test.YtpcekfimhnojnaaGreatDoorStackOpensK
import Derived.Test.YtpcekfimhnojnaaGreatDoorSO
import Derived.LaidMore
import Derived.LaidHandle
import Derived.Deep.DeepLaidRun
import Derived.Lay
import Derived.SevenTiedAt
import Derived.Stop.Joined
import Derived.JoinedOf
namespace Go.Proofs.YtpcekfimhnojnaaGreatDoor
open Go.SX Go.ChangeShapes Go.WideShapes Go.ChangeAt Go.RowKit

theorem stackOpens_k1 : (Tryz.pinned).checked.prog.funcNamed Rows.stackOpensRow.func = some 3 := by kernel_rfl
theorem stackOpens_k3 : Tryz.f3.isInstance (Tryz.pinned).checked.prog Rows.stackOpensRow.origin Rows.stackOpensRow.targs := of_decide_eq_true (by kernel_rfl)
theorem stackOpens_k4 : Tryz.f3.isWrapper (Tryz.pinned).checked.prog Rows.stackOpensRow.wrapper Rows.stackOpensRow.mainSum := by unfold Func.isWrapper; first | (rw [if_pos (by decide +kernel)]; kernel_rfl) | (rw [if_neg (by decide +kernel)]; exact ⟨rfl, rfl⟩)
theorem stackOpens_ip : (Tryz.pinned).checked.prog.inPlace 3 = Rows.stackOpensRow.inPlace := by unfold Program.inPlace; rw [stackOpens_cl]; kernel_rfl
theorem stackOpens_uf : (Tryz.pinned).checked.prog.unfollowed 3 = Rows.stackOpensRow.unfollowed := by unfold Program.unfollowed; rw [stackOpens_cl]; kernel_rfl
theorem stackOpens_rc : (Tryz.pinned).checked.prog.recurses 3 = Rows.stackOpensRow.recurses := by unfold Program.recurses; rw [stackOpens_uf]; kernel_rfl
theorem stackOpens_vn : (Tryz.pinned).checked.prog.varsNamed 3 = Rows.stackOpensRow.named := by unfold Program.varsNamed; rw [stackOpens_cl]; kernel_rfl
theorem stackOpens_lo : laidOutB (Tryz.pinned).checked.prog = true := stackOpens_laidOut
theorem stackOpens_k2 : joinedFacts (Tryz.pinned).checked.prog 3 Tryz.f3 Rows.stackOpensSpec Rows.stackOpensRow = true := by
  unfold joinedFacts
  rw [stackOpens_ip, stackOpens_uf, stackOpens_rc, stackOpens_vn, stackOpens_lo]
  kernel_rfl
theorem stackOpens_holds : Rows.StackOpensSaid :=
  OpenClaim.holds_of_wide 3 Tryz.f3 rfl rfl rfl rfl rfl rfl rfl ⟨rfl, rfl, rfl, rfl, rfl⟩ rfl rfl rfl rfl rfl stackOpens_k1 Tryz.func3 stackOpens_k2 stackOpens_k3 stackOpens_k4
    (fun os started H enc _ => stackOpens_lifted os started H enc)

theorem stackOpens_k5 : Rows.stackOpensRow.wfByText (OpenSpec.ofChange Rows.stackOpensSpec) = true := by kernel_rfl
theorem stackOpens_k6 : (Tryz.pinned).checked.prog.mainIs = some (true, "35e2f98034d9d48c85dda8cf774ba279a28d19e62f9a10fec7ebc324a26bd0d9".toList) := by kernel_rfl
theorem stackOpens_k7 : true = (Tryz.pinned).checked.prog.looks [] := by kernel_rfl
theorem stackOpens_k8 : (Tryz.pinned).checked.prog.funcNamed "footbridge/footbridgelaw36.StackOpens" = some 3 := by kernel_rfl
theorem stackOpens_k9 : ([9, 23].all fun u => !(Tryz.pinned).checked.prog.wantsStandIn u) = true := by kernel_rfl
theorem stackOpens_card : Rows.StackOpensCardSaid :=
  Claim7.holds_tied_plain_at .later [] [.data, .handle, .pinned] true (true, "35e2f98034d9d48c85dda8cf774ba279a28d19e62f9a10fec7ebc324a26bd0d9") true stackOpens_holds (fun _ h => by cases h) stackOpens_k5 (fun _ h => by cases h) stackOpens_row_tie rfl ⟨rfl, rfl⟩ stackOpens_k6 rfl
    (fun f fn hf hfn => by
      obtain rfl : f = 3 := Option.some.inj (stackOpens_k8.symm.trans hf) |>.symm
      obtain rfl : fn = Tryz.f3 := (Option.some.inj (Tryz.func3.symm.trans hfn)).symm
      exact ⟨stackOpens_k7, fun j t ht => by
        rw [Tryz.params3] at ht
        have hm : t ∈ [9, 23] := by simpa using Array.mem_of_getElem? ht
        simpa using List.all_eq_true.1 stackOpens_k9 t hm⟩)
    (show false = ((Tryz.pinned).checked.prog.goesFrom "footbridge/footbridgelaw36.StackOpens" || false) by unfold Program.goesFrom; rw [stackOpens_k8, Option.any_some, stackOpens_gf]; rfl)
#print axioms stackOpens_card
end Go.Proofs.YtpcekfimhnojnaaGreatDoor
