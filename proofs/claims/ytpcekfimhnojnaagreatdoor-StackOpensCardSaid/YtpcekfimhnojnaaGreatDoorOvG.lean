/- Contracts for the computing walk, errors.As among them. -/
import Derived.Test.YtpcekfimhnojnaaGreatDoorAsR
import Derived.Test.YtpcekfimhnojnaaGreatDoorIsR
import Derived.Test.YtpcekfimhnojnaaGreatDoorOv
namespace Go.Proofs.YtpcekfimhnojnaaGreatDoor
open Go.SX
noncomputable def Tryz.ovG : Ov := (orOv Tryz.isIsR (orOv Tryz.asAsR Tryz.ovA))
theorem Tryz.ovG_ok0 : OvOK Tryz.prog Tryz.ovG := (orOv_ok Tryz.isIsR_ok (orOv_ok Tryz.asAsR_ok Tryz.ovA_ok0))
theorem Tryz.ovG_ok (k : Nat) : CallOK Tryz.prog (Tryz.evo Tryz.ovG k) := Tryz.evo_ok Tryz.ovG_ok0 k
end Go.Proofs.YtpcekfimhnojnaaGreatDoor
