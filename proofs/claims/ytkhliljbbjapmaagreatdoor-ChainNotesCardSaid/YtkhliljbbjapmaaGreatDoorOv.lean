/- Contracts for the computing walk. -/
import Derived.Test.YtkhliljbbjapmaaGreatDoorIns
import Derived.Test.YtkhliljbbjapmaaGreatDoorBld
import Derived.Test.YtkhliljbbjapmaaGreatDoorSha1
import Derived.Test.YtkhliljbbjapmaaGreatDoorSXU
namespace Go.Proofs.YtkhliljbbjapmaaGreatDoor
open Go.SX
noncomputable def Tryz.ovA : Ov := (orOv Tryz.ov (orOv (ccOv 125 [(139, 0)]) (orOv (stOv 76 5) (orOv (grOv 153 5) (shaOv 121 rndP wrdP K64 (fun r q => addR r q))))))
theorem Tryz.ovA_ok0 : OvOK Tryz.prog Tryz.ovA := (orOv_ok Tryz.ov_ok (orOv_ok (ccOv_ok bld) (orOv_ok (stOv_ok bld) (orOv_ok (grOv_ok bld) (shaOv_ok K64_len fun r s => by have h := blk r s; unfold blkP at h; rw [itP_G, sprP_gen] at h; exact h)))))
theorem Tryz.ovA_ok (k : Nat) : CallOK Tryz.prog (Tryz.evo Tryz.ovA k) := Tryz.evo_ok Tryz.ovA_ok0 k
end Go.Proofs.YtkhliljbbjapmaaGreatDoor
