/- A chain's copy. -/
import Derived.Test.YtkhliljbbjapmaaGreatDoorCN
import Derived.Test.YtkhliljbbjapmaaGreatDoorJC
namespace Go.Proofs.YtkhliljbbjapmaaGreatDoor
open Go.SX
/-- A copy: its journal stands behind handle 6. -/
noncomputable def chD (X Y : AV) : Res := .box 69 [.str alphaW, .ptr 6 0, .nils, .int .i64 0, X, Y]
theorem copy00 {L : List KV} (hr : L.length * 2 ≤ room) (hl : 0 < L.length) :
    Ctr Tryz.prog 9 [.ptr 0 0] [] [(0, chX .nils .nils .nils), (1, jour L)] 5 9 (.ptr 5 0)
    [(0, chX .nils .nils .nils), (1, jour L), (5, chD .nils .nils), (6, jour L)] := by
  refine Ctr.introR (T := Tryz.T) Tryz.hT Tryz.hM Tryz.hE Tryz.func9 rfl (by kernel_rfl) rfl rfl ?_ rfl ?_
  · simp [okH_all, okR, chX, jour, okL_cons, okL_nil, okA_str, okA_ptr, okA_int, okA_nils, okA_sv]
  conv => whnf
  refine callR [1] (jcopyP hr hl) rfl rfl rfl rfl trivial ⟨rfl, trivial⟩ ?_
  conv => whnf
  refine callR [] cloneB0 rfl rfl rfl rfl trivial trivial ?_
  conv => whnf
  refine callR [0, 1, 2, 3, 4] (sent0 none none trivial trivial) rfl rfl rfl rfl ⟨rfl, trivial⟩ trivial ?_
  conv => whnf
  refine callR [0, 1, 2, 3, 4] (written0 none none trivial trivial) rfl rfl rfl rfl ⟨rfl, trivial⟩ trivial ?_
  conv => whnf
  refine .mk' [6, 5, 50, 51] rfl rfl rfl ?_ rfl rfl ⟨rfl, rfl, rfl, rfl, trivial⟩
  simp [okH_all, okR, chX, chD, jour, okL_cons, okL_nil, okA_str, okA_ptr, okA_int, okA_nils, okA_sv]
theorem copy01 {L : List KV} (hr : L.length * 2 ≤ room) (hl : 0 < L.length) {W : List AV} {m : Nat} (hW : W.all bareA = true) (hm : W.length = m * 9) (hmr : m * 9 ≤ room) (hm0 : 0 < m) :
    Ctr Tryz.prog 9 [.ptr 0 0] [] [(0, chX .nils .nils (.sv 3 9 0 m none)), (1, jour L), (3, .row 34 9 W none)] 5 9 (.ptr 5 0)
    [(0, chX .nils .nils (.sv 3 9 0 m none)), (1, jour L), (3, .row 34 9 W none), (5, chD .nils (.sv 8 9 0 m none)), (6, jour L), (8, .row 34 9 W none)] := by
  refine Ctr.introR (T := Tryz.T) Tryz.hT Tryz.hM Tryz.hE Tryz.func9 rfl (by kernel_rfl) rfl rfl ?_ rfl ?_
  · simp [okH_all, okR, chX, jour, okL_cons, okL_nil, okA_str, okA_ptr, okA_int, okA_nils, okA_sv, bare_ok hW]
  conv => whnf
  refine callR [1] (jcopyP hr hl) rfl rfl rfl rfl trivial ⟨rfl, trivial⟩ ?_
  conv => whnf
  refine callR [] cloneB0 rfl rfl rfl rfl trivial trivial ?_
  conv => whnf
  refine callR [0, 1, 2, 3, 4] (sent0 none (some m) trivial hm0) rfl rfl rfl rfl ⟨rfl, trivial⟩ trivial ?_
  conv => whnf
  refine callR [0, 1, 2, 3, 4] (written1 none none hW hm hmr hm0 trivial trivial) (post' := [(3, .row 34 9 W none), (6, .row 34 9 W none)]) (by simp only [renH, renR, bare_ren hW]; rfl) rfl rfl rfl ⟨rfl, trivial⟩ ⟨row_lk hW rfl, trivial⟩ ?_
  conv => whnf
  refine .mk' [7, 5, 50, 6] rfl rfl rfl ?_ rfl rfl ⟨rfl, rfl, row_lk hW rfl, rfl, rfl, row_lk hW rfl, trivial⟩
  simp [okH_all, okR, chX, chD, jour, okL_cons, okL_nil, okA_str, okA_ptr, okA_int, okA_nils, okA_sv, bare_ok hW]
theorem copy10 {L : List KV} (hr : L.length * 2 ≤ room) (hl : 0 < L.length) {S : List AV} {k : Nat} (hS : S.all bareA = true) (hk : S.length = k * 8) (hkr : k * 8 ≤ room) (hk0 : 0 < k) :
    Ctr Tryz.prog 9 [.ptr 0 0] [] [(0, chX .nils (.sv 2 8 0 k none) .nils), (1, jour L), (2, .row 31 8 S none)] 5 9 (.ptr 5 0)
    [(0, chX .nils (.sv 2 8 0 k none) .nils), (1, jour L), (2, .row 31 8 S none), (5, chD (.sv 7 8 0 k none) .nils), (6, jour L), (7, .row 31 8 S none)] := by
  refine Ctr.introR (T := Tryz.T) Tryz.hT Tryz.hM Tryz.hE Tryz.func9 rfl (by kernel_rfl) rfl rfl ?_ rfl ?_
  · simp [okH_all, okR, chX, jour, okL_cons, okL_nil, okA_str, okA_ptr, okA_int, okA_nils, okA_sv, bare_ok hS]
  conv => whnf
  refine callR [1] (jcopyP hr hl) rfl rfl rfl rfl trivial ⟨rfl, trivial⟩ ?_
  conv => whnf
  refine callR [] cloneB0 rfl rfl rfl rfl trivial trivial ?_
  conv => whnf
  refine callR [0, 1, 2, 3, 4] (sent1 none none hS hk hkr hk0 trivial trivial) (post' := [(2, .row 31 8 S none), (6, .row 31 8 S none)]) (by simp only [renH, renR, bare_ren hS]; rfl) rfl rfl rfl ⟨rfl, trivial⟩ ⟨row_lk hS rfl, trivial⟩ ?_
  conv => whnf
  refine callR [0, 1, 2, 3, 4] (written0 none (some k) trivial hk0) rfl rfl rfl rfl ⟨rfl, trivial⟩ trivial ?_
  conv => whnf
  refine .mk' [7, 5, 6, 51] rfl rfl rfl ?_ rfl rfl ⟨rfl, rfl, row_lk hS rfl, rfl, rfl, row_lk hS rfl, trivial⟩
  simp [okH_all, okR, chX, chD, jour, okL_cons, okL_nil, okA_str, okA_ptr, okA_int, okA_nils, okA_sv, bare_ok hS]
theorem copy11 {L : List KV} (hr : L.length * 2 ≤ room) (hl : 0 < L.length) {S : List AV} {k : Nat} (hS : S.all bareA = true) (hk : S.length = k * 8) (hkr : k * 8 ≤ room) (hk0 : 0 < k) {W : List AV} {m : Nat} (hW : W.all bareA = true) (hm : W.length = m * 9) (hmr : m * 9 ≤ room) (hm0 : 0 < m) :
    Ctr Tryz.prog 9 [.ptr 0 0] [] [(0, chX .nils (.sv 2 8 0 k none) (.sv 3 9 0 m none)), (1, jour L), (2, .row 31 8 S none), (3, .row 34 9 W none)] 5 9 (.ptr 5 0)
    [(0, chX .nils (.sv 2 8 0 k none) (.sv 3 9 0 m none)), (1, jour L), (2, .row 31 8 S none), (3, .row 34 9 W none), (5, chD (.sv 7 8 0 k none) (.sv 8 9 0 m none)), (6, jour L), (7, .row 31 8 S none), (8, .row 34 9 W none)] := by
  refine Ctr.introR (T := Tryz.T) Tryz.hT Tryz.hM Tryz.hE Tryz.func9 rfl (by kernel_rfl) rfl rfl ?_ rfl ?_
  · simp [okH_all, okR, chX, jour, okL_cons, okL_nil, okA_str, okA_ptr, okA_int, okA_nils, okA_sv, bare_ok hS, bare_ok hW]
  conv => whnf
  refine callR [1] (jcopyP hr hl) rfl rfl rfl rfl trivial ⟨rfl, trivial⟩ ?_
  conv => whnf
  refine callR [] cloneB0 rfl rfl rfl rfl trivial trivial ?_
  conv => whnf
  refine callR [0, 1, 2, 3, 4] (sent1 none (some m) hS hk hkr hk0 trivial hm0) (post' := [(2, .row 31 8 S none), (6, .row 31 8 S none)]) (by simp only [renH, renR, bare_ren hS]; rfl) rfl rfl rfl ⟨rfl, trivial⟩ ⟨row_lk hS rfl, trivial⟩ ?_
  conv => whnf
  refine callR [0, 1, 2, 3, 4] (written1 none (some k) hW hm hmr hm0 trivial hk0) (post' := [(3, .row 34 9 W none), (7, .row 34 9 W none)]) (by simp only [renH, renR, bare_ren hW]; rfl) rfl rfl rfl ⟨rfl, trivial⟩ ⟨row_lk hW rfl, trivial⟩ ?_
  conv => whnf
  refine .mk' [8, 5, 6, 7] rfl rfl rfl ?_ rfl rfl ⟨rfl, rfl, row_lk hS rfl, row_lk hW rfl, rfl, rfl, row_lk hS rfl, row_lk hW rfl, trivial⟩
  simp [okH_all, okR, chX, chD, jour, okL_cons, okL_nil, okA_str, okA_ptr, okA_int, okA_nils, okA_sv, bare_ok hS, bare_ok hW]
end Go.Proofs.YtkhliljbbjapmaaGreatDoor
