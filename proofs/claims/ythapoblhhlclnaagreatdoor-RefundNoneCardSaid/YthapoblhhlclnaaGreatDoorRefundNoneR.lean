/- The example calls of RefundNone, run by the kernel. -/
import Derived.Test.YthapoblhhlclnaaGreatDoorRC
import Derived.Test.YthapoblhhlclnaaGreatDoorSXZ
namespace Go.Proofs.YthapoblhhlclnaaGreatDoor
open Go.SX
theorem refundNone_run : Tryz.evo Tryz.ovRC 80 3 (argsA 1 [some 17]) [] [(0, globR 0 (.iface 189 (.agg #[.pointer (some ⟨4, 54, none⟩)])))] 18 = .ok (.bool true, [], 4574) := by kernel_rfl
theorem refundNone_spec : Ctr Tryz.prog 3 (argsA 1 [some 17]) [(0, globR 0 (.iface 189 (.agg #[.pointer (some ⟨4, 54, none⟩)])))] [] 18 4574 (.bool true) [] := Tryz.ovRC_ok 80 refundNone_run
end Go.Proofs.YthapoblhhlclnaaGreatDoor
