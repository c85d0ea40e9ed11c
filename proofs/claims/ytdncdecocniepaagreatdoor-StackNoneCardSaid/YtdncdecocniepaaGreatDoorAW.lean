/- The example calls, run by the kernel: at whatever handle they come. -/
import Derived.Test.YtdncdecocniepaaGreatDoorSA
import Derived.Test.YtdncdecocniepaaGreatDoorOvG
import Derived.Test.YtdncdecocniepaaGreatDoorSXEG
namespace Go.Proofs.YtdncdecocniepaaGreatDoor
open Go.SX
theorem Tryz.awk_run : Tryz.evo Tryz.ovSA 80 9 [] [] [(0, globR 0 (.iface 384 (.agg #[.pointer (some ⟨4, 191, none⟩)])))] 1 = .ok (.bool true, [], 7672) := by kernel_rfl
theorem Tryz.awk : Ctr Tryz.prog 9 [] [(0, globR 0 (.iface 384 (.agg #[.pointer (some ⟨4, 191, none⟩)])))] [] 1 1 (.bool true) [] := (Tryz.ovSA_ok 80 Tryz.awk_run).shutG rfl rfl
noncomputable def Tryz.ovAW : Ov := orOv (atOvT 0 384 4 191 9) Tryz.ovG
theorem Tryz.ovAW_ok0 : OvOK Tryz.prog Tryz.ovAW := orOv_ok (atOvT_ok Tryz.awk) Tryz.ovG_ok0
theorem Tryz.ovAW_ok (k : Nat) : CallOK Tryz.prog (Tryz.evo Tryz.ovAW k) := Tryz.evo_ok Tryz.ovAW_ok0 k
end Go.Proofs.YtdncdecocniepaaGreatDoor
