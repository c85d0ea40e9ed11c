/- The example calls of IncomeNone, run by the kernel. -/
import Derived.Test.YtjfnajoopgcohaaGreatDoorPan
import Derived.Test.YtjfnajoopgcohaaGreatDoorSXZ
namespace Go.Proofs.YtjfnajoopgcohaaGreatDoor
open Go.SX
theorem incomeNone_run : Tryz.evo Tryz.ovP 80 3 (argsA 0 [some 17]) [] [] 17 = .ok (.bool true, [], 1157) := by kernel_rfl
theorem incomeNone_spec : Ctr Tryz.prog 3 (argsA 0 [some 17]) [] [] 17 1157 (.bool true) [] := Tryz.ovP_ok 80 incomeNone_run
end Go.Proofs.YtjfnajoopgcohaaGreatDoor
