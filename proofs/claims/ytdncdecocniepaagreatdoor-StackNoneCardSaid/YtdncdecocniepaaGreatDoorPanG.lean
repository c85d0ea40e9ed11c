/- What recovers from panics, as an override. -/
import Derived.Test.YtdncdecocniepaaGreatDoorOvG
import Derived.Test.YtdncdecocniepaaGreatDoorSXPN
namespace Go.Proofs.YtdncdecocniepaaGreatDoor
open Go.SX
noncomputable def Tryz.ovQ : Ov := orOv (panOv Tryz.T Tryz.fns.get (extPure Tryz.exts) Tryz.ovG 99 [166, 167, 168] 4 60) Tryz.ovG
theorem Tryz.ovQ_ok0 : OvOK Tryz.prog Tryz.ovQ := orOv_ok (panOv_ok Tryz.hT Tryz.hM Tryz.hF Tryz.hE Tryz.ovG_ok0) Tryz.ovG_ok0
theorem Tryz.ovQ_ok (k : Nat) : CallOK Tryz.prog (Tryz.evo Tryz.ovQ k) := Tryz.evo_ok Tryz.ovQ_ok0 k
end Go.Proofs.YtdncdecocniepaaGreatDoor
