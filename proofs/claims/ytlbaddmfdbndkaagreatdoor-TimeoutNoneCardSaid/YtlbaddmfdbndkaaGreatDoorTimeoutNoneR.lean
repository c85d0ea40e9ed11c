/- The example calls of TimeoutNone, run by the kernel. -/
import Derived.Test.YtlbaddmfdbndkaaGreatDoorOF
import Derived.Test.YtlbaddmfdbndkaaGreatDoorSXZ
namespace Go.Proofs.YtlbaddmfdbndkaaGreatDoor
open Go.SX
theorem timeoutNone_run : Tryz.evo Tryz.ovOF 80 7 [] [] [(0, globR 0 (.iface 240 (.agg #[.pointer (some ⟨4, 44, none⟩)])))] 1 = .ok (.bool true, [], 9802) := by kernel_rfl
theorem timeoutNone_aw : Ctr Tryz.prog 7 [] [(0, globR 0 (.iface 240 (.agg #[.pointer (some ⟨4, 44, none⟩)])))] [] 1 1 (.bool true) [] := (Tryz.ovOF_ok 80 timeoutNone_run).shutG rfl rfl
end Go.Proofs.YtlbaddmfdbndkaaGreatDoor
