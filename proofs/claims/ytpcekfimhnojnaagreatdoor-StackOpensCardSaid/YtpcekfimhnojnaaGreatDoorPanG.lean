/- What recovers from panics, as an override. -/
import Derived.Test.YtpcekfimhnojnaaGreatDoorOvG
import Derived.Test.YtpcekfimhnojnaaGreatDoorSXPN
namespace Go.Proofs.YtpcekfimhnojnaaGreatDoor
open Go.SX
noncomputable def Tryz.ovQ : Ov := orOv (panOv Tryz.T Tryz.fns.get (extPure Tryz.exts) Tryz.ovG 197 [303, 304, 305] 4 60) Tryz.ovG
theorem Tryz.ovQ_ok0 : OvOK Tryz.prog Tryz.ovQ := orOv_ok (panOv_ok Tryz.hT Tryz.hM Tryz.hF Tryz.hE Tryz.ovG_ok0) Tryz.ovG_ok0
theorem Tryz.ovQ_ok (k : Nat) : CallOK Tryz.prog (Tryz.evo Tryz.ovQ k) := Tryz.evo_ok Tryz.ovQ_ok0 k
end Go.Proofs.YtpcekfimhnojnaaGreatDoor
