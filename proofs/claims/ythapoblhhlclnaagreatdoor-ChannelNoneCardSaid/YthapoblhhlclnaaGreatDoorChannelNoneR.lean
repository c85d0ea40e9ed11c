/- The example calls of ChannelNone, run by the kernel. -/
import Derived.Test.YthapoblhhlclnaaGreatDoorHB
import Derived.Test.YthapoblhhlclnaaGreatDoorSXZ
namespace Go.Proofs.YthapoblhhlclnaaGreatDoor
open Go.SX
theorem channelNone_run : Tryz.evo Tryz.ovB 80 16 [] [] [] 1 = .ok (.bool true, [], 5546) := by kernel_rfl
theorem channelNone_aw : Ctr Tryz.prog 16 [] [] [] 0 0 (.bool true) [] := (Tryz.ovB_ok 80 channelNone_run).shut rfl rfl
end Go.Proofs.YthapoblhhlclnaaGreatDoor
