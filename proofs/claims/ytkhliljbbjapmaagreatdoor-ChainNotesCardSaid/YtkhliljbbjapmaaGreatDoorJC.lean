/- A journal without levels: Copy, Depth. -/
import Derived.Test.YtkhliljbbjapmaaGreatDoorLS
namespace Go.Proofs.YtkhliljbbjapmaaGreatDoor
open Go.SX
theorem scopy1 {L : List KV} (hr : L.length * 2 ≤ room) (h0 : 0 < L.length) : Ctr Tryz.prog 53 [.ptr 0 0] [] [(0, .box 134 [.sv 1 2 0 L.length none]), (1, .row 99 2 (cellsP L) none)] 2 4 (.ptr 2 0)
    [(0, .box 134 [.sv 1 2 0 L.length none]), (1, .row 99 2 (cellsP L) none), (2, .box 134 [.sv 3 2 0 L.length none]), (3, .row 99 2 (cellsP L) none)] := by
  refine Ctr.introR (T := Tryz.T) Tryz.hT Tryz.hM puH_ok Tryz.func53 rfl (by kernel_rfl) rfl rfl ?_ rfl ?_
  · simp [okH_all, okR, bare_ok (cellsP_bare _), okL_cons, okL_nil, okA_sv]
  conv => whnf
  refine callR [1] (clone1 hr h0) (post' := [(1, .row 99 2 (cellsP L) none), (2, .row 99 2 (cellsP L) none)]) (by simp only [renH, renR, bare_ren (cellsP_bare L)]; rfl) rfl rfl rfl trivial ⟨rowL_ren' _ rfl, trivial⟩ ?_
  conv => whnf
  refine .mk' [3, 2] rfl rfl rfl ?_ rfl rfl ⟨rfl, rowL_ren' _ rfl, rfl, rowL_ren' _ rfl, trivial⟩
  simp [okH_all, okR, bare_ok (cellsP_bare _), okL_cons, okL_nil, okA_sv]
theorem jcopy1 {L : List KV} (hr : L.length * 2 ≤ room) (h0 : 0 < L.length) : Ctr Tryz.prog 30 [.ptr 0 0] [] (jH L) 3 6 (.ptr 3 0)
    (jH L ++ [(3, .box 85 [.ptr 4 0, .nils]), (4, .box 134 [.sv 5 2 0 L.length none]), (5, .row 99 2 (cellsP L) none)]) := by
  refine Ctr.introR (T := Tryz.T) Tryz.hT Tryz.hM puH_ok Tryz.func30 rfl (by kernel_rfl) rfl rfl ?_ rfl ?_
  · rw [List.append_nil]; exact jH_ok L
  conv => whnf
  refine callR [1, 2] (scopy1 hr h0) (post' := [(1, .box 134 [.sv 2 2 0 L.length none]), (2, .row 99 2 (cellsP L) none), (3, .box 134 [.sv 4 2 0 L.length none]), (4, .row 99 2 (cellsP L) none)]) (by simp only [renH, renR, bare_ren (cellsP_bare L)]; rfl) rfl rfl rfl trivial ⟨rfl, rowL_ren' _ rfl, trivial⟩ ?_
  conv => whnf
  refine unrollR Tryz.hT Tryz.hM puH_ok 1 ?_
  conv => whnf
  refine .mk' [5, 3, 4] rfl rfl rfl ?_ rfl rfl ⟨rfl, rfl, rowL_ren' _ rfl, rfl, rfl, rowL_ren' _ rfl, trivial⟩
  simp [jH, okH_all, okR, bare_ok (cellsP_bare _), okL_cons, okL_nil, okA_sv, okA_ptr, okA_nils]
theorem jdepthP (L : List KV) : Ctr Tryz.prog 32 [.ptr 0 0] [] [(0, jour L)] 1 1 (.int .i64 0) [(0, jour L)] := by
  refine Ctr.pack (rest := []) (outer := []) (by kernel_rfl) (by decide) (by decide) rfl rfl rfl rfl (fun _ _ h => by simp [lookN] at h) rfl ?_
  rintro H (⟨rfl, rfl⟩ | rfl)
  · refine ⟨1, 2, .int .i64 0, jN, rfl, ?_, ?_⟩
    · rw [inn1 _ 0, List.append_nil]
      refine Ctr.introR (T := Tryz.T) Tryz.hT Tryz.hM puH_ok Tryz.func32 rfl (by kernel_rfl) rfl rfl rfl rfl ?_
      conv => whnf
      exact .mk' [] rfl rfl rfl rfl rfl rfl ⟨rfl, rfl, trivial⟩
    · exact ⟨jN, id, id, _, .inl ⟨rfl, rfl⟩, rfl, rfl, rfl, fun _ _ => rfl, rfl, rfl, rfl, rfl, ⟨rfl, rfl, trivial⟩, trivial⟩
  · refine ⟨2, 3, .int .i64 0, jH L, jH_ok L, ?_, jback0 rfl fun _ => rfl⟩
    rw [inn1 _ 0, List.append_nil]
    refine Ctr.introR (T := Tryz.T) Tryz.hT Tryz.hM puH_ok Tryz.func32 rfl (by kernel_rfl) rfl rfl ?_ rfl ?_
    · rw [List.append_nil]; exact jH_ok L
    conv => whnf
    exact Fin.same (jH_ok L) rfl (by simp [lookC, jH])
theorem jcopyP {L : List KV} (hr : L.length * 2 ≤ room) (h0 : 0 < L.length) : Ctr Tryz.prog 30 [.ptr 0 0] [] [(0, jour L)] 1 2 (.ptr 1 0) [(0, jour L), (1, jour L)] := by
  refine Ctr.pack (rest := []) (outer := [(1, jour L)]) (by kernel_rfl) (by decide) (by decide) rfl rfl rfl rfl (fun _ _ h => by simp [lookN] at h) rfl ?_
  rintro H (⟨rfl, rfl⟩ | rfl)
  · simp at h0
  · have c : Ctr Tryz.prog 30 [.ptr 0 0] [] (jH L) 3 4 (.ptr 3 0) ((3, jour L) :: jH L) := by
      refine (jcopy1 hr h0).fold (h := 3) (outer := jH L) (by decide) (by decide) rfl (by rw [List.append_nil]; exact jH_ok L) (fun _ _ h => by simp [lookN] at h) ?_ rfl
      exact ⟨jH L, sg [3, 4, 5] 9, id, _, .inr rfl, rfl, rfl, rfl, fun _ _ => rfl, rfl, rfl, (by simp [jH, okH_all, okR, bare_ok (cellsP_bare L), okL_cons, okL_nil, okA_sv, okA_ptr, okA_nils]), rfl, ⟨rfl, rfl, rowL_ren' _ rfl, trivial⟩, ⟨rfl, rfl, rowL_ren' _ rfl, trivial⟩⟩
    exact ⟨2, _, _, _, jH_ok L, by rw [inn1 _ 0, List.append_nil]; exact c, jH L, id, sg [0, 3] 9, _, .inr rfl, rfl, rfl, rfl, one_id rfl, rfl, rfl, rfl, rfl, ⟨rfl, rfl, rowL_ren' id rfl, trivial⟩, ⟨rfl, trivial⟩⟩
end Go.Proofs.YtkhliljbbjapmaaGreatDoor
