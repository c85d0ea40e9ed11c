/- The example calls of RelayPackets, run by the kernel. -/
import Derived.Test.YtglkoaajgekonaaGreatDoorPW
import Derived.Test.YtglkoaajgekonaaGreatDoorSXZ
namespace Go.Proofs.YtglkoaajgekonaaGreatDoor
open Go.SX
theorem relayPackets_run : Tryz.evo Tryz.ovW 80 6 [] [] [] 1 = .ok (.bool true, [], 467) := by kernel_rfl
theorem relayPackets_aw : Ctr Tryz.prog 6 [] [] [] 0 0 (.bool true) [] := (Tryz.ovW_ok 80 relayPackets_run).shut rfl rfl
end Go.Proofs.YtglkoaajgekonaaGreatDoor
-- SQUEEZED
