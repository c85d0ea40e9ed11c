/- The example calls of ChainNames, run by the kernel. -/
import Derived.Test.YtkhliljbbjapmaaGreatDoorOv
import Derived.Test.YtkhliljbbjapmaaGreatDoorSXZ
namespace Go.Proofs.YtkhliljbbjapmaaGreatDoor
open Go.SX
theorem chainNames_run : Tryz.evo Tryz.ovA 80 5 [] [] [] 1 = .ok (.bool true, [], 374) := by kernel_rfl
theorem chainNames_aw : Ctr Tryz.prog 5 [] [] [] 0 0 (.bool true) [] := (Tryz.ovA_ok 80 chainNames_run).shut rfl rfl
end Go.Proofs.YtkhliljbbjapmaaGreatDoor
