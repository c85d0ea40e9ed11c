/- StackNone: the law footbridge/footbridgelaw36.StackNone answers true at every input: its example calls go as they should, and on what is none each function gives its value for none. No condition. -/
import Derived.Test.YtdncdecocniepaaGreatDoorRows
import Derived.Test.YtdncdecocniepaaGreatDoorTie
import Derived.Test.YtdncdecocniepaaGreatDoorCards
import Derived.Test.YtdncdecocniepaaGreatDoorTab
import Derived.Test.YtdncdecocniepaaGreatDoorSXZ
import Derived.Test.YtdncdecocniepaaGreatDoorStackNoneL
import Derived.Test.YtdncdecocniepaaGreatDoorStackNoneK
import Derived.LaidMore
import Derived.LaidHandle
import Derived.Deep.DeepLaidRun
import Derived.Lay
import Derived.SevenTiedAt
import Derived.Stop.Joined
import Derived.JoinedOf
namespace Go.Proofs.YtdncdecocniepaaGreatDoor
open Go.SX Go.ChangeShapes Go.WideShapes Go.ChangeAt Go.RowKit

theorem stackNone_k1 : (Tryz.pinned).checked.prog.funcNamed Rows.stackNoneRow.func = some 3 := by kernel_rfl
theorem stackNone_k3 : Tryz.f3.isInstance (Tryz.pinned).checked.prog Rows.stackNoneRow.origin Rows.stackNoneRow.targs := of_decide_eq_true (by kernel_rfl)
theorem stackNone_k4 : Tryz.f3.isWrapper (Tryz.pinned).checked.prog Rows.stackNoneRow.wrapper Rows.stackNoneRow.mainSum := by unfold Func.isWrapper; first | (rw [if_pos (by decide +kernel)]; kernel_rfl) | (rw [if_neg (by decide +kernel)]; exact ⟨rfl, rfl⟩)
theorem stackNone_ip : (Tryz.pinned).checked.prog.inPlace 3 = Rows.stackNoneRow.inPlace := by unfold Program.inPlace; rw [stackNone_cl]; kernel_rfl
theorem stackNone_uf : (Tryz.pinned).checked.prog.unfollowed 3 = Rows.stackNoneRow.unfollowed := by unfold Program.unfollowed; rw [stackNone_cl]; kernel_rfl
theorem stackNone_rc : (Tryz.pinned).checked.prog.recurses 3 = Rows.stackNoneRow.recurses := by unfold Program.recurses; rw [stackNone_uf]; kernel_rfl
theorem stackNone_vn : (Tryz.pinned).checked.prog.varsNamed 3 = Rows.stackNoneRow.named := by unfold Program.varsNamed; rw [stackNone_cl]; kernel_rfl
theorem stackNone_lo : laidOutB (Tryz.pinned).checked.prog = true := stackNone_laidOut
theorem stackNone_k2 : joinedFacts (Tryz.pinned).checked.prog 3 Tryz.f3 Rows.stackNoneSpec Rows.stackNoneRow = true := by
  unfold joinedFacts
  rw [stackNone_ip, stackNone_uf, stackNone_rc, stackNone_vn, stackNone_lo]
  kernel_rfl
theorem stackNone_holds : Rows.StackNoneSaid :=
  OpenClaim.holds_of_wide 3 Tryz.f3 rfl rfl rfl rfl rfl rfl rfl ⟨rfl, rfl, rfl, rfl, rfl⟩ rfl rfl rfl rfl rfl stackNone_k1 Tryz.func3 stackNone_k2 stackNone_k3 stackNone_k4
    (fun os started H enc _ => stackNone_lifted os started H enc)

theorem stackNone_k5 : Rows.stackNoneRow.wfByText (OpenSpec.ofChange Rows.stackNoneSpec) = true := by kernel_rfl
theorem stackNone_k6 : (Tryz.pinned).checked.prog.mainIs = some (true, "f27471b8d1e36c0ab6a9295389c1b8bc9e5653b8299b2ce371432044185db3d6".toList) := by kernel_rfl
theorem stackNone_k7 : true = (Tryz.pinned).checked.prog.looks [] := by kernel_rfl
theorem stackNone_k8 : (Tryz.pinned).checked.prog.funcNamed "footbridge/footbridgelaw36.StackNone" = some 3 := by kernel_rfl
theorem stackNone_k9 : ([26, 28, 9].all fun u => !(Tryz.pinned).checked.prog.wantsStandIn u) = true := by kernel_rfl
theorem stackNone_card : Rows.StackNoneCardSaid :=
  Claim7.holds_tied_plain_at .later [] [.data, .handle, .pinned] true (true, "f27471b8d1e36c0ab6a9295389c1b8bc9e5653b8299b2ce371432044185db3d6") true stackNone_holds (fun _ h => by cases h) stackNone_k5 (fun _ h => by cases h) stackNone_row_tie rfl ⟨rfl, rfl⟩ stackNone_k6 rfl
    (fun f fn hf hfn => by
      obtain rfl : f = 3 := Option.some.inj (stackNone_k8.symm.trans hf) |>.symm
      obtain rfl : fn = Tryz.f3 := (Option.some.inj (Tryz.func3.symm.trans hfn)).symm
      exact ⟨stackNone_k7, fun j t ht => by
        rw [Tryz.params3] at ht
        have hm : t ∈ [26, 28, 9] := by simpa using Array.mem_of_getElem? ht
        simpa using List.all_eq_true.1 stackNone_k9 t hm⟩)
    (show false = ((Tryz.pinned).checked.prog.goesFrom "footbridge/footbridgelaw36.StackNone" || false) by unfold Program.goesFrom; rw [stackNone_k8, Option.any_some, stackNone_gf]; rfl)
#print axioms stackNone_card
end Go.Proofs.YtdncdecocniepaaGreatDoor
