/- Equality of values and heaps that a kernel computes: for overrides at given arguments. -/
import Derived.Test.YtpcekfimhnojnaaGreatDoorSXU
namespace Go.SX
noncomputable section

/-- A call that was run by itself, at these arguments. -/
def atOv (f : FuncId) (vs : List AV) (pre : Heap) (n : Nat) (val : AV × Heap × Nat) : Ov := fun g us pr R m =>
  match Nat.beq g f && Nat.beq m n && (eqList (eqA 20) us vs && (eqH 20 pr pre && roB R)) with
  | true => some val
  | false => none

theorem atOv_ok {P : Program} {f : FuncId} {vs : List AV} {pre : Heap} {n : Nat} {v : AV} {post : Heap} {n' : Nat} (hex : allR pre exB = true) (hd : domB pre post = true) (c : Ctr P f vs [] pre n n' v post) : OvOK P (atOv f vs pre n (v, post, n')) := by
  intro g us pr R m v1 p1 n1 h
  unfold atOv at h
  split at h
  · rename_i hb
    simp only [Bool.and_eq_true] at hb
    obtain ⟨⟨b1, b2⟩, b3, b4, b5⟩ := hb
    rw [Nat.eq_of_beq_eq_true b1, Nat.eq_of_beq_eq_true b2, eqList_ok (eqA_ok 20) _ _ b3, eqH_ok 20 _ _ b4]
    cases h
    refine (c.frame (R' := R) (pre' := pre) (fun k q hl => ?_) (fun k q hl => ?_) (fun k q hl => by simp [lookN] at hl) (fun k q hl => by rw [look_append, hl]; rfl)).weak (fun k q hl => .inl (by rw [look_append, hl]; rfl)) hd
    · have := (roB_all R) ▸ b5
      have := List.all_eq_true.1 this _ (look_mem hl)
      simpa using this
    · have := (allR_eq pre exB) ▸ hex
      exact List.all_eq_true.1 this _ (look_mem hl)
  · cases h


/-- A call of closed arguments that was run by itself from handle 1 on: at whatever handle it comes. -/
def atOvN (f : FuncId) (vs : List AV) (val : AV × Heap × Nat) : Ov := fun g us pr R m =>
  match Nat.beq g f && (Nat.blt 0 m && (eqList (eqA 20) us vs && roB R)), pr with
  | true, [] => some (renA (sg [0] m) val.1, renH (sg [0] m) val.2.1, m + (val.2.2 - 1))
  | _, _ => none

theorem atOvN_ok {P : Program} {f : FuncId} {vs : List AV} {v : AV} {post : Heap} {n' : Nat} (ha : okL 0 vs = true) (c : Ctr P f vs [] [] 1 n' v post) : OvOK P (atOvN f vs (v, post, n')) := by
  intro g us pr R m v1 p1 n1 h
  unfold atOvN at h
  split at h
  · rename_i hb
    simp only [Bool.and_eq_true] at hb
    obtain ⟨b1, b2, b3, b4⟩ := hb
    rw [Nat.eq_of_beq_eq_true b1, eqList_ok (eqA_ok 20) _ _ b3]
    cases h
    have b2 : Nat.blt 0 m = true := b2
    have c1 := c.lift (N := m) (R' := R) (pre' := []) [0] (callB1 b2) rfl b4 (fun k q hl => by simp [renH, lookN] at hl) rfl
    rw [Ctr.anyN.okL0_ren vs ha] at c1
    exact c1
  · cases h

end
end Go.SX
