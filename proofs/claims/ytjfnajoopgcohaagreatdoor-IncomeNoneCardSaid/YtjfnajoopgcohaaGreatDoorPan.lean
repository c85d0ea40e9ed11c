/- What recovers from panics, as an override. -/
import Derived.Test.YtjfnajoopgcohaaGreatDoorOv
import Derived.Test.YtjfnajoopgcohaaGreatDoorSXPN
namespace Go.Proofs.YtjfnajoopgcohaaGreatDoor
open Go.SX
noncomputable def Tryz.ovP : Ov := orOv (panOv Tryz.T Tryz.fns.get (extPure Tryz.exts) Tryz.ovA 7 [16, 20, 21] 4 60) Tryz.ovA
theorem Tryz.ovP_ok0 : OvOK Tryz.prog Tryz.ovP := orOv_ok (panOv_ok Tryz.hT Tryz.hM Tryz.hF Tryz.hE Tryz.ovA_ok0) Tryz.ovA_ok0
theorem Tryz.ovP_ok (k : Nat) : CallOK Tryz.prog (Tryz.evo Tryz.ovP k) := Tryz.evo_ok Tryz.ovP_ok0 k
end Go.Proofs.YtjfnajoopgcohaaGreatDoor
