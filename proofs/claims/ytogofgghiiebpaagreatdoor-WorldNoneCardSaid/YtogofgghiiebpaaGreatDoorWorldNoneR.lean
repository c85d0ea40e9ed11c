/- The example calls of WorldNone, run by the kernel. -/
import Derived.Test.YtogofgghiiebpaaGreatDoorOv
import Derived.Test.YtogofgghiiebpaaGreatDoorSXZ
namespace Go.Proofs.YtogofgghiiebpaaGreatDoor
open Go.SX
/-- The computing walk; calls of functions that only read are parted. -/
noncomputable def Tryz.evr (ov : Ov) (k : Nat) : CallH := evFn Tryz.T Tryz.fns.get (rdPure [271, 272, 276, 35, 37, 38, 20, 21, 22, 25, 31, 40, 73] (extPure Tryz.exts)) ov k
theorem Tryz.evr_ok {ov : Ov} (ho : OvOK Tryz.prog ov) (k : Nat) : CallOK Tryz.prog (Tryz.evr ov k) := evFn_ok Tryz.hT Tryz.hM Tryz.hF (rdPure_ok Tryz.hE) ho k
theorem worldNone_run : Tryz.evr Tryz.ovA 80 3 (argsA 1 [some 4]) [] [(0, globR 0 (.iface 446 (.agg #[.pointer (some ⟨4, 227, none⟩)])))] 5 = .ok (.bool true, [], 461) := by kernel_rfl
theorem worldNone_spec : Ctr Tryz.prog 3 (argsA 1 [some 4]) [(0, globR 0 (.iface 446 (.agg #[.pointer (some ⟨4, 227, none⟩)])))] [] 5 461 (.bool true) [] := Tryz.evr_ok Tryz.ovA_ok0 80 worldNone_run
end Go.Proofs.YtogofgghiiebpaaGreatDoor
