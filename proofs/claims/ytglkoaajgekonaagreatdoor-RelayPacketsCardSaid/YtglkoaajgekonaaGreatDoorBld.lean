import Derived.Test.YtglkoaajgekonaaGreatDoorTab
import Derived.Test.YtglkoaajgekonaaGreatDoorSXU
namespace Go.Proofs.YtglkoaajgekonaaGreatDoor
open Go.SX
theorem infB : ∃ j, Tryz.prog.info? 154 = some j ∧ j.size = 2 := by
 obtain ⟨⟨i, z, h1, h2, _⟩, _⟩ := Tryz.hT 154 _ rfl
 exact ⟨i, h1, h2⟩
set_option maxRecDepth 20000 in
theorem cc_fresh {e : Nat} {rest : List AV} (hb : rest.all bareA = true) (hlies : liesAt Tryz.prog Tryz.prog.depth e ((rest.length + 1 + 1) / Tryz.prog.cellsOf e) 0 154 1 = true) :
  Ctr Tryz.prog 149 [.ptr 0 0] [] [(0, .box e (.nilp :: .nils :: rest))] 1 1 (.tup []) [(0, .box e (.ptr 0 0 :: .nils :: rest))] := by
 obtain ⟨j, hj, hj2⟩ := infB
 refine Ctr.introR (T := Tryz.T) Tryz.hT Tryz.hM Tryz.hE Tryz.func149 rfl (by kernel_rfl) rfl rfl ?_ rfl ?_
 ·simp [okH_all, okR, okL_cons, okA_nilp, okA_nils, bare_ok hb]
 ·conv => whnf
  refine stop0 (triple_to_unsafe rfl rfl Tryz.underlying152 Tryz.underlying226 hj (by rw [hj2]; decide) (cs := .nilp :: .nils :: rest) (e := e) (by simp)) (Nat.le_refl _) (sub_one rfl) sub_nil rfl ?_
  conv => whnf
  refine stop0 (triple_from_unsafe rfl rfl Tryz.underlying226 Tryz.underlying152 hj (cs := .nilp :: .nils :: rest) (e := e) hlies) (Nat.le_refl _) (sub_one rfl) sub_nil rfl ?_
  conv => whnf
  simp only [spine_rec]
  conv => whnf
  refine Fin.same ?_ rfl ?_
  ·simp [okH_all, okR, okL_cons, okA_ptr, okA_nils, bare_ok hb]
  ·intro p hp
   simp only [List.mem_singleton] at hp
   subst hp
   simp [look_cons, splice_def, cellsOf]
set_option maxRecDepth 20000 in
theorem st_row {e i k : Nat} {rc : Option Nat} {rest cs : List AV} {s : ByteArray} (hr : rest.all bareA = true) (hb : cs.all bareA = true)
  (hk : k = s.size) (h0 : 0 < k) (h63 : k ≤ 9223372036854775807) (hcs : (cs.drop i).take k = bytesA s) :
  Ctr Tryz.prog 97 [.ptr 0 0] [] [(0, .box e (.ptr 0 0 :: .sv 1 1 i k none :: rest)), (1, .row 5 1 cs rc)] 2 2 (.str s) [(0, .box e (.ptr 0 0 :: .sv 1 1 i k none :: rest)), (1, .gone)] := by
 refine Ctr.introR (T := Tryz.T) Tryz.hT Tryz.hM Tryz.hE Tryz.func97 rfl (by kernel_rfl) rfl rfl ?_ rfl ?_
 ·simp [okH_all, okR, okL_cons, okA_ptr, okA_sv, bare_ok hb, bare_ok hr]
 ·conv => whnf
  refine stop0 (triple_sliceData rfl rfl h0) (Nat.le_refl _) sub_nil sub_nil rfl ?_
  conv => whnf
  refine stop0 (triple_unsafeString rfl rfl rfl Tryz.underlying191 (by rfl) hk h0 h63 hcs (rc := rc) (cs := cs)) (Nat.le_refl _) sub_nil (sub_one rfl) rfl ?_
  conv => whnf
  refine Fin.same ?_ rfl ?_
  ·simp [okH_all, okR, okL_cons, okA_ptr, okA_sv, bare_ok hb, bare_ok hr]
  ·intro p hp
   simp only [List.mem_cons, List.not_mem_nil, or_false] at hp
   rcases hp with rfl | rfl <;> rfl
set_option maxRecDepth 20000 in
theorem st_nil {e : Nat} {ad : AV} {rest : List AV} (hr : rest.all bareA = true) (had : okA 1 ad = true) :
  Ctr Tryz.prog 97 [.ptr 0 0] [] [(0, .box e (ad :: .nils :: rest))] 1 1 (.str ⟨#[]⟩) [(0, .box e (ad :: .nils :: rest))] := by
 refine Ctr.introR (T := Tryz.T) Tryz.hT Tryz.hM Tryz.hE Tryz.func97 rfl (by kernel_rfl) rfl rfl ?_ rfl ?_
 ·simp [okH_all, okR, okL_cons, okA_nils, had, bare_ok hr]
 ·conv => whnf
  refine stop0 (triple_sliceData_nil rfl rfl) (Nat.le_refl _) sub_nil sub_nil rfl ?_
  conv => whnf
  refine stop0 (triple_unsafeString_nil rfl rfl rfl) (Nat.le_refl _) sub_nil sub_nil rfl ?_
  conv => whnf
  refine Fin.same ?_ rfl ?_
  ·simp [okH_all, okR, okL_cons, okA_nils, had, bare_ok hr]
  ·intro p hp
   simp only [List.mem_singleton] at hp
   subst hp
   rfl
theorem nz : NoZeroFn Tryz.prog 168 #[3] 120 5 := ⟨Tryz.underlying120, Tryz.f168, Tryz.func168, by kernel_rfl, by kernel_rfl, by kernel_rfl, by kernel_rfl⟩
set_option maxRecDepth 20000 in
theorem gr_nil {e k : Nat} {rest : List AV} (hr : rest.all bareA = true) (hk : k ≤ 281474976710656) :
  Ctr Tryz.prog 163 [.ptr 0 0, .int .i64 k] [] [(0, .box e (.ptr 0 0 :: .nils :: rest))] 1 2 (.tup []) [(0, .box e (.ptr 0 0 :: .sv 1 1 0 0 none :: rest)), (1, .row 5 1 [] none)] := by
 refine Ctr.introR (T := Tryz.T) Tryz.hT Tryz.hM Tryz.hE Tryz.func163 rfl (by kernel_rfl) rfl rfl ?_ rfl ?_
 ·simp [okH_all, okR, okL_cons, okA_nils, okA_ptr, bare_ok hr]
 ·conv => whnf
  have hw : IntKind.i64.wrap (IntKind.i64.wrap (2 * 0) + (k : Int)) = (k : Int) := by
   have h0 : IntKind.i64.wrap (2 * 0) = 0 := rfl
   rw [h0, Int.zero_add, wrap_small] <;> omega
  simp only [hw]
  refine call0 fun hcall => ?_
  have hc2 : IsCall _ _ 168 [.int .i64 (k : Int)] := hcall
  have tr := @triple_makeNoZero _ _ _ 1 168 120 5 k _ nz hc2 hk
  refine stop0 tr (Nat.le_succ 1) sub_nil sub_nil rfl ?_
  clear tr hcall
  conv => whnf
  refine ⟨by simp [capE], ?_⟩
  conv => whnf
  clear hc2
  simp only [spine_rec]
  conv => whnf
  refine Fin.same ?_ rfl ?_
  ·simp [okH_all, okR, okL_cons, okL_nil, okA_sv, okA_ptr, bare_ok hr]
  ·intro p hp
   simp only [List.mem_cons, List.not_mem_nil, or_false] at hp
   rcases hp with rfl | rfl
   ·simp [look_cons, cellsOf]
   ·rfl
set_option maxRecDepth 20000 in
theorem cc_used' {h n e : Nat} {buf : AV} {rest : List AV} (hh : Nat.blt h n = true) (hok : okL n (buf :: rest) = true) :
  Ctr Tryz.prog 149 [.ptr h 0] [] [(h, .box e (.ptr h 0 :: buf :: rest))] n n (.tup []) [(h, .box e (.ptr h 0 :: buf :: rest))] := by
 have lk1 : ∀ (r : Res) (l : Heap), SX.look ((h, r) :: l) h = some r := fun r l => by simp [look_cons]
 have hk : okH n [(h, Res.box e (.ptr h 0 :: buf :: rest))] = true := by
  simp only [okH_all, okR, okL_cons, okA_ptr, hh, List.all_cons, List.all_nil, Bool.and_true, Bool.true_and]
  simpa [okL_cons] using hok
 refine Ctr.introR (T := Tryz.T) Tryz.hT Tryz.hM Tryz.hE Tryz.func149 rfl ?_ rfl ?_ ?_ ?_ ?_
 ·rw [Nat.ble_eq_true_of_le (Nat.le_refl n), Bool.and_true]; kernel_rfl
 ·simp [okL_cons, okL_nil, okA_ptr, hh]
 ·exact hk
 ·simp [roB, domB, allR]
 ·conv => whnf
  simp only [List.cons_append, List.nil_append, lk1]
  conv => whnf
  simp only [List.cons_append, List.nil_append, lk1]
  conv => whnf
  obtain ⟨j, hj, hj2⟩ := infB
  refine stop0 (triple_neq_same rfl rfl rfl Tryz.underlying152 hj) (Nat.le_refl _) sub_nil sub_nil rfl ?_
  conv => whnf
  refine Fin.same hk rfl ?_
  intro p hp
  simp only [List.mem_singleton] at hp
  subst hp
  simp [look_cons]
theorem bld : BldSpec Tryz.prog 149 97 163 5 [(154, 0)] where
 fresh := fun h1 h2 => by
  refine cc_fresh h1 ?_
  simp only [List.mem_cons, Prod.mk.injEq, List.not_mem_nil, or_false] at h2
  obtain ⟨rfl, h2⟩ := h2
  rw [h2]; kernel_rfl
 used := cc_used'
 row := fun h1 h2 h3 h4 h5 h6 => st_row h1 h2 h3 h4 h5 h6
 nil := fun h1 h2 => st_nil h1 h2
 grow := fun h1 h2 => gr_nil h1 h2
end Go.Proofs.YtglkoaajgekonaaGreatDoor
-- SQUEEZED
