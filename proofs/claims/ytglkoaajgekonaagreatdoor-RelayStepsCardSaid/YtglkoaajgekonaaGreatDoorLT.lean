/- Letters of names. -/
import Derived.Test.YtglkoaajgekonaaGreatDoorTab
import Derived.Test.YtglkoaajgekonaaGreatDoorSXZ
import Derived.Test.YtglkoaajgekonaaGreatDoorSXU
import Derived.Test.YtglkoaajgekonaaGreatDoorSXRF
namespace Go.Proofs.YtglkoaajgekonaaGreatDoor
open Go.SX
def letB (c : Nat) : Bool := (Nat.ble 97 c && Nat.ble c 122) || (Nat.ble 65 c && Nat.ble c 90) || (Nat.ble 48 c && Nat.ble c 57) || Nat.beq c 46 || Nat.beq c 95 || Nat.beq c 45
noncomputable def letRun (f c : Nat) : Bool := match Tryz.ev 80 f [.int .u8 (c : Int)] [] [] 0 with
  | .ok (.bool b, [], n) => Nat.beq n 0 && (if letB c then b else !b)
  | _ => false
theorem let_all1 : (List.range 256).all (letRun 112) = true := by kernel_rfl
theorem let_all2 : (List.range 256).all (letRun 134) = true := by kernel_rfl
theorem let_of {f : Nat} (h : (List.range 256).all (letRun f) = true) (c : Nat) (hc : c < 256) : Ctr Tryz.prog f [.int .u8 (c : Int)] [] [] 0 0 (.bool (letB c)) [] := by
  have h := List.all_eq_true.1 h c (List.mem_range.2 hc)
  unfold letRun at h
  split at h
  · rename_i b n hr
    simp only [Bool.and_eq_true] at h
    have hn := Nat.eq_of_beq_eq_true h.1
    subst hn
    have hb : b = letB c := by
      cases hl : letB c <;> rw [hl] at h <;> simpa using h.2
    subst hb
    exact Tryz.ev_ok 80 hr
  · cases h
noncomputable def puLt : Pure := fun g vs => match Nat.beq g 112 || Nat.beq g 134, vs with
  | true, [.int .u8 (.ofNat c)] => match Nat.blt c 256 with
    | true => some (.bool (letB c))
    | false => none
  | _, _ => none
theorem puLt_ok : PureOK Tryz.prog puLt := by
  intro g vs v h
  unfold puLt at h
  split at h
  · rename_i c hg
    split at h
    · rename_i hc
      cases h
      have hc : c < 256 := by simpa using hc
      refine .inl fun n => ?_
      rcases Bool.or_eq_true _ _ |>.mp hg with hg | hg
      · have hg := Nat.eq_of_beq_eq_true hg
        subst hg
        exact (let_of let_all1 c hc).anyO rfl rfl n
      · have hg := Nat.eq_of_beq_eq_true hg
        subst hg
        exact (let_of let_all2 c hc).anyO rfl rfl n
    · cases h
  · cases h
end Go.Proofs.YtglkoaajgekonaaGreatDoor
