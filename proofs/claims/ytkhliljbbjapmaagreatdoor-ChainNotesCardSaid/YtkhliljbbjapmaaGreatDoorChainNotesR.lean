/- The example calls of ChainNotes, run by the kernel. -/
import Derived.Test.YtkhliljbbjapmaaGreatDoorOv
import Derived.Test.YtkhliljbbjapmaaGreatDoorSXZ
namespace Go.Proofs.YtkhliljbbjapmaaGreatDoor
open Go.SX
theorem chainNotes_run : Tryz.evo Tryz.ovA 80 5 [] [] [] 1 = .ok (.bool true, [], 374) := by kernel_rfl
theorem chainNotes_aw : Ctr Tryz.prog 5 [] [] [] 0 0 (.bool true) [] := (Tryz.ovA_ok 80 chainNotes_run).shut rfl rfl
end Go.Proofs.YtkhliljbbjapmaaGreatDoor
