/- Contracts for the computing walk, errors.As among them. -/
import Derived.Test.YtlbaddmfdbndkaaGreatDoorAsT
import Derived.Test.YtlbaddmfdbndkaaGreatDoorIsT
import Derived.Test.YtlbaddmfdbndkaaGreatDoorOv
namespace Go.Proofs.YtlbaddmfdbndkaaGreatDoor
open Go.SX
noncomputable def Tryz.ovG : Ov := (orOv Tryz.isIsT (orOv Tryz.asAsT Tryz.ovA))
theorem Tryz.ovG_ok0 : OvOK Tryz.prog Tryz.ovG := (orOv_ok Tryz.isIsT_ok (orOv_ok Tryz.asAsT_ok Tryz.ovA_ok0))
theorem Tryz.ovG_ok (k : Nat) : CallOK Tryz.prog (Tryz.evo Tryz.ovG k) := Tryz.evo_ok Tryz.ovG_ok0 k
end Go.Proofs.YtlbaddmfdbndkaaGreatDoor
