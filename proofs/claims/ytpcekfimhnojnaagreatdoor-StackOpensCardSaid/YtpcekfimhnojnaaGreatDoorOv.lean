/- Contracts for the computing walk. -/
import Derived.Test.YtpcekfimhnojnaaGreatDoorIns
import Derived.Test.YtpcekfimhnojnaaGreatDoorDel
import Derived.Test.YtpcekfimhnojnaaGreatDoorBld
import Derived.Test.YtpcekfimhnojnaaGreatDoorSha1
import Derived.Test.YtpcekfimhnojnaaGreatDoorSha2
import Derived.Test.YtpcekfimhnojnaaGreatDoorSXU
namespace Go.Proofs.YtpcekfimhnojnaaGreatDoor
open Go.SX
noncomputable def Tryz.ovA : Ov := (orOv Tryz.ov2 (orOv (ccOv 287 [(286, 0)]) (orOv (stOv 189 5) (orOv (grOv 288 5) (orOv (shaOv 281 rndP wrdP K64 (fun r q => addR r q)) (shaOv 316 rndR wrdR K64 (fun r q => addR q r)))))))
theorem Tryz.ovA_ok0 : OvOK Tryz.prog Tryz.ovA := (orOv_ok Tryz.ov2_ok (orOv_ok (ccOv_ok bld) (orOv_ok (stOv_ok bld) (orOv_ok (grOv_ok bld) (orOv_ok (shaOv_ok K64_len fun r s => by have h := blk r s; unfold blkP at h; rw [itP_G, sprP_gen] at h; exact h) (shaOv_ok K64_len fun r s => by have h := blkRef r s; unfold blkR at h; rw [itR_G, sprR_gen] at h; exact h))))))
theorem Tryz.ovA_ok (k : Nat) : CallOK Tryz.prog (Tryz.evo Tryz.ovA k) := Tryz.evo_ok Tryz.ovA_ok0 k
end Go.Proofs.YtpcekfimhnojnaaGreatDoor
