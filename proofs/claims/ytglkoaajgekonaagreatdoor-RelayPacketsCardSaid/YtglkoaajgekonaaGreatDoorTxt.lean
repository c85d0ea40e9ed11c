import Derived.Test.YtglkoaajgekonaaGreatDoorTab
import Derived.Test.YtglkoaajgekonaaGreatDoorSXU
import Derived.Test.YtglkoaajgekonaaGreatDoorNum
namespace Go.Proofs.YtglkoaajgekonaaGreatDoor
open Go.SX
theorem dgo_len : ∀ (k m : Nat) (l : List UInt8), (dgo k m l).length ≤ k + l.length
 | 0, _, l => by simp [dgo]
 | k + 1, m, l => by
  rw [dgo]
  split
  ·omega
  ·have := dgo_len k (m / 256) (UInt8.ofNat (m % 256) :: l)
   simp at this; omega
theorem numS_size (x : Int) : (numS x).size ≤ 8 := by
 unfold numS
 split
 ·show (digB x).length + 1 ≤ 8
  have := dgo_len 7 x.toNat []
  unfold digB
  simp at this ⊢; omega
 ·show 0 ≤ 8; omega
def textS (s : ByteArray) : ByteArray := if decide ((65536 : Int) < s.size) then ⟨#[]⟩ else catB (numS s.size) s
def textE (s : ByteArray) : Int := if decide ((65536 : Int) < s.size) then 4 else 0
theorem cat_size (a b : ByteArray) : (catB a b).size = a.size + b.size := by
 show (a.data.toList ++ b.data.toList).length = _
 rw [List.length_append]; rfl
theorem textS_size (s : ByteArray) : (textS s).size ≤ 65544 := by
 unfold textS
 split
 ·show 0 ≤ 65544; omega
 ·rename_i h
  rw [cat_size]
  have := numS_size s.size
  simp at h; omega
noncomputable def puN : Pure := fun g vs => match Nat.beq g 95 || Nat.beq g 64, vs with
 | true, [.int .i64 x] => some (.tup [.str (numS x), .int .i64 (numE x)])
 | _, _ => none
theorem puN_ok : PureOK Tryz.prog puN := by
 intro g vs v h
 unfold puN at h
 split at h
 ·rename_i x hg
  cases h
  refine .inl fun n => ?_
  rcases Bool.or_eq_true _ _ |>.mp hg with hg | hg
  ·have hg := Nat.eq_of_beq_eq_true hg
   subst hg
   exact (num1 x).anyO rfl rfl n
  ·have hg := Nat.eq_of_beq_eq_true hg
   subst hg
   exact (num2 x).anyO rfl rfl n
 ·cases h
theorem text1 (s : ByteArray) : Ctr Tryz.prog 92 [.str s] [] [] 0 0 (.tup [.str (textS s), .int .i64 (textE s)]) [] := by
 refine Ctr.introR (T := Tryz.T) Tryz.hT Tryz.hM puN_ok Tryz.func92 rfl (by kernel_rfl) rfl rfl rfl rfl ?_
 conv => whnf
 refine bcase_intro (fun h1 => ?_) (fun h1 => ?_)
 ·conv => whnf
  rw [show textS s = ⟨#[]⟩ by simp only [textS, h1, if_true], show textE s = 4 by simp only [textE, h1, if_true]]
  exact Fin.same rfl rfl (by simp)
 ·conv => whnf
  refine ⟨?_, ?_⟩
  ·have := numS_size s.size
   simp at h1
   show (numS s.size).size + s.size ≤ big
   unfold big; omega
  conv => whnf
  rw [show textS s = catB (numS s.size) s by simp [textS, h1], show textE s = 0 by simp [textE, h1]]
  exact Fin.same rfl rfl (by simp)
theorem text2 (s : ByteArray) : Ctr Tryz.prog 65 [.str s] [] [] 0 0 (.tup [.str (textS s), .int .i64 (textE s)]) [] := by
 refine Ctr.introR (T := Tryz.T) Tryz.hT Tryz.hM puN_ok Tryz.func65 rfl (by kernel_rfl) rfl rfl rfl rfl ?_
 conv => whnf
 refine bcase_intro (fun h1 => ?_) (fun h1 => ?_)
 ·conv => whnf
  rw [show textS s = ⟨#[]⟩ by simp only [textS, h1, if_true], show textE s = 4 by simp only [textE, h1, if_true]]
  exact Fin.same rfl rfl (by simp)
 ·conv => whnf
  refine ⟨?_, ?_⟩
  ·have := numS_size s.size
   simp at h1
   show (numS s.size).size + s.size ≤ big
   unfold big; omega
  conv => whnf
  rw [show textS s = catB (numS s.size) s by simp [textS, h1], show textE s = 0 by simp [textE, h1]]
  exact Fin.same rfl rfl (by simp)
theorem num3 (x : Int) : Ctr Tryz.prog 37 [.int .i64 x] [] [] 0 0 (.str (numS x)) [] := by
 refine Ctr.introR (T := Tryz.T) Tryz.hT Tryz.hM puN_ok Tryz.func37 rfl (by kernel_rfl) rfl rfl rfl rfl ?_
 conv => whnf
 exact Fin.same rfl rfl (by simp)
noncomputable def puX : Pure := fun g vs => match Nat.beq g 92 || Nat.beq g 65, vs with
 | true, [.str s] => some (.tup [.str (textS s), .int .i64 (textE s)])
 | _, _ => none
theorem puX_ok : PureOK Tryz.prog puX := by
 intro g vs v h
 unfold puX at h
 split at h
 ·rename_i x hg
  cases h
  refine .inl fun n => ?_
  rcases Bool.or_eq_true _ _ |>.mp hg with hg | hg
  ·have hg := Nat.eq_of_beq_eq_true hg
   subst hg
   exact (text1 x).anyO rfl rfl n
  ·have hg := Nat.eq_of_beq_eq_true hg
   subst hg
   exact (text2 x).anyO rfl rfl n
 ·cases h
theorem text3 (s : ByteArray) : Ctr Tryz.prog 38 [.str s] [] [] 0 0 (.str (textS s)) [] := by
 refine Ctr.introR (T := Tryz.T) Tryz.hT Tryz.hM puX_ok Tryz.func38 rfl (by kernel_rfl) rfl rfl rfl rfl ?_
 conv => whnf
 exact Fin.same rfl rfl (by simp)
noncomputable def puY : Pure := fun g vs => match Nat.beq g 37, vs with
 | true, [.int .i64 x] => some (.str (numS x))
 | _, _ => match Nat.beq g 38, vs with
  | true, [.str s] => some (.str (textS s))
  | _, _ => none
theorem puY_ok : PureOK Tryz.prog puY := by
 intro g vs v h
 unfold puY at h
 split at h
 ·rename_i x hg
  have hg := Nat.eq_of_beq_eq_true hg
  subst hg
  cases h
  exact .inl fun n => (num3 x).anyO rfl rfl n
 ·split at h
  ·rename_i s hg _
   have hg := Nat.eq_of_beq_eq_true hg
   subst hg
   cases h
   exact .inl fun n => (text3 s).anyO rfl rfl n
  ·cases h
noncomputable def puZ : Pure := orP puN (orP puX puY)
theorem puZ_ok : PureOK Tryz.prog puZ := orP_ok puN_ok (orP_ok puX_ok puY_ok)
end Go.Proofs.YtglkoaajgekonaaGreatDoor
-- SQUEEZED
