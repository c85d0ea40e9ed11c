/- Contracts for the computing walk. -/
import Derived.Test.YtogofgghiiebpaaGreatDoorIns
import Derived.Test.YtogofgghiiebpaaGreatDoorDel
import Derived.Test.YtogofgghiiebpaaGreatDoorBld
import Derived.Test.YtogofgghiiebpaaGreatDoorSha1
import Derived.Test.YtogofgghiiebpaaGreatDoorSXU
namespace Go.Proofs.YtogofgghiiebpaaGreatDoor
open Go.SX
noncomputable def Tryz.ovA : Ov := (orOv Tryz.ov2 (orOv (ccOv 364 [(434, 0)]) (orOv (stOv 338 5) (orOv (grOv 365 5) (shaOv 216 rndP wrdP K64 (fun r q => addR r q))))))
theorem Tryz.ovA_ok0 : OvOK Tryz.prog Tryz.ovA := (orOv_ok Tryz.ov2_ok (orOv_ok (ccOv_ok bld) (orOv_ok (stOv_ok bld) (orOv_ok (grOv_ok bld) (shaOv_ok K64_len fun r s => by have h := blk r s; unfold blkP at h; rw [itP_G, sprP_gen] at h; exact h)))))
theorem Tryz.ovA_ok (k : Nat) : CallOK Tryz.prog (Tryz.evo Tryz.ovA k) := Tryz.evo_ok Tryz.ovA_ok0 k
end Go.Proofs.YtogofgghiiebpaaGreatDoor
