/- A builder that lies in a proof's writer, for the computing walk. -/
import Derived.Test.YtglkoaajgekonaaGreatDoorOv
namespace Go.Proofs.YtglkoaajgekonaaGreatDoor
open Go.SX
theorem bldW : BldSpec Tryz.prog 149 97 163 5 [(154, 0), (156, 1)] where
 fresh := fun h1 h2 => by
  refine cc_fresh h1 ?_
  simp only [List.mem_cons, Prod.mk.injEq, List.not_mem_nil, or_false] at h2
  rcases h2 with ⟨rfl, h2⟩ | ⟨rfl, h2⟩
  ·rw [h2]; kernel_rfl
  ·rw [h2]; kernel_rfl
 used := cc_used'
 row := fun h1 h2 h3 h4 h5 h6 => st_row h1 h2 h3 h4 h5 h6
 nil := fun h1 h2 => st_nil h1 h2
 grow := fun h1 h2 => gr_nil h1 h2
noncomputable def Tryz.ovW : Ov := orOv (ccOv 149 [(154, 0), (156, 1)]) Tryz.ovA
theorem Tryz.ovW_ok0 : OvOK Tryz.prog Tryz.ovW := orOv_ok (ccOv_ok bldW) Tryz.ovA_ok0
theorem Tryz.ovW_ok (k : Nat) : CallOK Tryz.prog (Tryz.evo Tryz.ovW k) := Tryz.evo_ok Tryz.ovW_ok0 k
end Go.Proofs.YtglkoaajgekonaaGreatDoor
-- SQUEEZED
