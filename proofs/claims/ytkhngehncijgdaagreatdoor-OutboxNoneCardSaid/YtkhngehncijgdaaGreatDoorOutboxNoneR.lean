/- The example calls of OutboxNone, run by the kernel. -/
import Derived.Test.YtkhngehncijgdaaGreatDoorOC
import Derived.Test.YtkhngehncijgdaaGreatDoorSXZ
namespace Go.Proofs.YtkhngehncijgdaaGreatDoor
open Go.SX
theorem outboxNone_run : Tryz.evo Tryz.ovOC 80 7 [] [] [] 1 = .ok (.bool true, [], 5919) := by kernel_rfl
theorem outboxNone_aw : Ctr Tryz.prog 7 [] [] [] 0 0 (.bool true) [] := (Tryz.ovOC_ok 80 outboxNone_run).shut rfl rfl
end Go.Proofs.YtkhngehncijgdaaGreatDoor
