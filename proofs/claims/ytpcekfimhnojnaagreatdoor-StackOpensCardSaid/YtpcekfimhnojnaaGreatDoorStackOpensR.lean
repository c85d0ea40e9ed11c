/- The example calls of StackOpens, run by the kernel. -/
import Derived.Test.YtpcekfimhnojnaaGreatDoorSA
import Derived.Test.YtpcekfimhnojnaaGreatDoorSXZ
namespace Go.Proofs.YtpcekfimhnojnaaGreatDoor
open Go.SX
theorem stackOpens_run : Tryz.evo Tryz.ovSA 80 5 [] [] [(0, globR 0 (.iface 442 (.agg #[.pointer (some ⟨4, 288, none⟩)])))] 1 = .ok (.bool true, [], 7672) := by kernel_rfl
theorem stackOpens_aw : Ctr Tryz.prog 5 [] [(0, globR 0 (.iface 442 (.agg #[.pointer (some ⟨4, 288, none⟩)])))] [] 1 1 (.bool true) [] := (Tryz.ovSA_ok 80 stackOpens_run).shutG rfl rfl
end Go.Proofs.YtpcekfimhnojnaaGreatDoor
