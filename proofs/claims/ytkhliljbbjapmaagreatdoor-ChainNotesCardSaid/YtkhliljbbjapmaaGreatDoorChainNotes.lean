/- ChainNotes: the law footbridge/footbridgelaw38.ChainNotes answers true at every input: its example calls go as they should, and on what is none each function gives its value for none. No condition. -/
import Derived.Test.YtkhliljbbjapmaaGreatDoorRows
import Derived.Test.YtkhliljbbjapmaaGreatDoorTie
import Derived.Test.YtkhliljbbjapmaaGreatDoorCards
import Derived.Test.YtkhliljbbjapmaaGreatDoorTab
import Derived.Test.YtkhliljbbjapmaaGreatDoorSXZ
import Derived.Test.YtkhliljbbjapmaaGreatDoorChainNotesL
import Derived.Test.YtkhliljbbjapmaaGreatDoorCQ
import Derived.LaidMore
import Derived.LaidHandle
import Derived.Deep.DeepLaidRun
import Derived.Lay
import Derived.SevenTiedAt
import Derived.Stop.Joined
import Derived.JoinedOf
namespace Go.Proofs.YtkhliljbbjapmaaGreatDoor
open Go.SX Go.ChangeShapes Go.WideShapes Go.ChangeAt Go.RowKit

theorem chainNotes_k1 : (Tryz.pinned).checked.prog.funcNamed Rows.chainNotesRow.func = some 3 := by kernel_rfl
theorem chainNotes_k3 : Tryz.f3.isInstance (Tryz.pinned).checked.prog Rows.chainNotesRow.origin Rows.chainNotesRow.targs := of_decide_eq_true (by kernel_rfl)
theorem chainNotes_k4 : Tryz.f3.isWrapper (Tryz.pinned).checked.prog Rows.chainNotesRow.wrapper Rows.chainNotesRow.mainSum := by unfold Func.isWrapper; first | (rw [if_pos (by decide +kernel)]; kernel_rfl) | (rw [if_neg (by decide +kernel)]; exact ⟨rfl, rfl⟩)
theorem chainNotes_k2 : joinedFacts (Tryz.pinned).checked.prog 3 Tryz.f3 Rows.chainNotesSpec Rows.chainNotesRow = true := by kernel_rfl
theorem chainNotes_holds : Rows.ChainNotesSaid :=
  OpenClaim.holds_of_wide 3 Tryz.f3 rfl rfl rfl rfl rfl rfl rfl ⟨rfl, rfl, rfl, rfl, rfl⟩ rfl rfl rfl rfl rfl chainNotes_k1 Tryz.func3 chainNotes_k2 chainNotes_k3 chainNotes_k4
    (fun os started H enc _ => chainNotes_lifted os started H enc)

theorem chainNotes_k5 : Rows.chainNotesRow.wfByText (OpenSpec.ofChange Rows.chainNotesSpec) = true := by kernel_rfl
theorem chainNotes_k6 : (Tryz.pinned).checked.prog.mainIs = some (true, "7237c78e0d68a07398ed9b82b298d2c57905cba3043317ebb8fdb7fa2fe71a1f".toList) := by kernel_rfl
theorem chainNotes_k7 : false = (Tryz.pinned).checked.prog.looks [] := by kernel_rfl
theorem chainNotes_k8 : (Tryz.pinned).checked.prog.funcNamed "footbridge/footbridgelaw38.ChainNotes" = some 3 := by kernel_rfl
theorem chainNotes_k9 : ([22, 23].all fun u => !(Tryz.pinned).checked.prog.wantsStandIn u) = true := by kernel_rfl
theorem chainNotes_card : Rows.ChainNotesCardSaid :=
  Claim7.holds_tied_plain_at .later [] [.data, .pinned] true (true, "7237c78e0d68a07398ed9b82b298d2c57905cba3043317ebb8fdb7fa2fe71a1f") false chainNotes_holds (fun _ h => by cases h) chainNotes_k5 (fun _ h => by cases h) chainNotes_row_tie rfl ⟨rfl, rfl⟩ chainNotes_k6 rfl
    (fun f fn hf hfn => by
      obtain rfl : f = 3 := Option.some.inj (chainNotes_k8.symm.trans hf) |>.symm
      obtain rfl : fn = Tryz.f3 := (Option.some.inj (Tryz.func3.symm.trans hfn)).symm
      exact ⟨chainNotes_k7, fun j t ht => by
        rw [Tryz.params3] at ht
        have hm : t ∈ [22, 23] := by simpa using Array.mem_of_getElem? ht
        simpa using List.all_eq_true.1 chainNotes_k9 t hm⟩)
    (by kernel_rfl)
#print axioms chainNotes_card
end Go.Proofs.YtkhliljbbjapmaaGreatDoor
