/- The example calls of InboxNone, run by the kernel. -/
import Derived.Test.YtkhngehncijgdaaGreatDoorOC
import Derived.Test.YtkhngehncijgdaaGreatDoorSXZ
namespace Go.Proofs.YtkhngehncijgdaaGreatDoor
open Go.SX
theorem inboxNone_run : Tryz.evo Tryz.ovOC 80 11 [] [] [] 1 = .ok (.bool true, [], 7923) := by kernel_rfl
theorem inboxNone_aw : Ctr Tryz.prog 11 [] [] [] 0 0 (.bool true) [] := (Tryz.ovOC_ok 80 inboxNone_run).shut rfl rfl
end Go.Proofs.YtkhngehncijgdaaGreatDoor
