/- Contracts for the computing walk. -/
import Derived.Test.YtglkoaajgekonaaGreatDoorIns
import Derived.Test.YtglkoaajgekonaaGreatDoorBld
import Derived.Test.YtglkoaajgekonaaGreatDoorSha1
import Derived.Test.YtglkoaajgekonaaGreatDoorSXU
namespace Go.Proofs.YtglkoaajgekonaaGreatDoor
open Go.SX
noncomputable def Tryz.ovA : Ov := (orOv Tryz.ov (orOv (ccOv 149 [(154, 0)]) (orOv (stOv 97 5) (orOv (grOv 163 5) (shaOv 142 rndP wrdP K64 (fun r q => addR r q))))))
theorem Tryz.ovA_ok0 : OvOK Tryz.prog Tryz.ovA := (orOv_ok Tryz.ov_ok (orOv_ok (ccOv_ok bld) (orOv_ok (stOv_ok bld) (orOv_ok (grOv_ok bld) (shaOv_ok K64_len fun r s => by have h := blk r s; unfold blkP at h; rw [itP_G, sprP_gen] at h; exact h)))))
theorem Tryz.ovA_ok (k : Nat) : CallOK Tryz.prog (Tryz.evo Tryz.ovA k) := Tryz.evo_ok Tryz.ovA_ok0 k
end Go.Proofs.YtglkoaajgekonaaGreatDoor
-- SQUEEZED
