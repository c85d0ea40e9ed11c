/- The example calls of StackNone, run by the kernel. -/
import Derived.Test.YtdncdecocniepaaGreatDoorAW
import Derived.Test.YtdncdecocniepaaGreatDoorSXZ
namespace Go.Proofs.YtdncdecocniepaaGreatDoor
open Go.SX
theorem stackNone_run : Tryz.evo Tryz.ovAW 80 3 (argsA 1 [some 9, some 8, none]) [] [(0, globR 0 (.iface 384 (.agg #[.pointer (some ⟨4, 191, none⟩)])))] 19 = .ok (.bool true, [], 98) := by kernel_rfl
theorem stackNone_spec : Ctr Tryz.prog 3 (argsA 1 [some 9, some 8, none]) [(0, globR 0 (.iface 384 (.agg #[.pointer (some ⟨4, 191, none⟩)])))] [] 19 98 (.bool true) [] := Tryz.ovAW_ok 80 stackNone_run
end Go.Proofs.YtdncdecocniepaaGreatDoor
