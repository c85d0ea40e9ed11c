/- Contracts for the computing walk. -/
import Derived.Test.YtaomokmomkdaaaaGreatDoorIns
import Derived.Test.YtaomokmomkdaaaaGreatDoorDel
import Derived.Test.YtaomokmomkdaaaaGreatDoorBld
namespace Go.Proofs.YtaomokmomkdaaaaGreatDoor
open Go.SX
noncomputable def Tryz.ovA : Ov := orOv Tryz.ov2 (orOv (ccOv 208 [(254, 0)]) (orOv (stOv 173 5) (grOv 239 5)))
theorem Tryz.ovA_ok0 : OvOK Tryz.prog Tryz.ovA := orOv_ok Tryz.ov2_ok (orOv_ok (ccOv_ok bld) (orOv_ok (stOv_ok bld) (grOv_ok bld)))
theorem Tryz.ovA_ok (k : Nat) : CallOK Tryz.prog (Tryz.evo Tryz.ovA k) := Tryz.evo_ok Tryz.ovA_ok0 k
end Go.Proofs.YtaomokmomkdaaaaGreatDoor
