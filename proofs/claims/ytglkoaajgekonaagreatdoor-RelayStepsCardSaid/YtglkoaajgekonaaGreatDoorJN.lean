/- A journal without levels, taken together: Get, Set, New. -/
import Derived.Test.YtglkoaajgekonaaGreatDoorPS
namespace Go.Proofs.YtglkoaajgekonaaGreatDoor
open Go.SX
/-- A journal's heap: its store has no pairs yet; it has these. -/
noncomputable def jN : Heap := [(0, .box 96 [.ptr 1 0, .nils]), (1, .box 139 [.nils])]
noncomputable def jH (L : List KV) : Heap := [(0, .box 96 [.ptr 1 0, .nils]), (1, .box 139 [.sv 2 2 0 L.length none]), (2, .row 26 2 (cellsP L) none)]
def jP (L : List KV) (H : Heap) : Prop := (L = [] ∧ H = jN) ∨ H = jH L
noncomputable def jour (L : List KV) : Res := .abs (pk (jP L))
theorem jH_ok (L : List KV) : okH 3 (jH L) = true := by simp [jH, okH_all, okR, bare_ok (cellsP_bare L), okL_cons, okL_nil, okA_sv, okA_ptr, okA_nils]
theorem jH_st (L : List KV) : (stH 1 L []) = [(1, .box 139 [.sv 2 2 0 L.length none]), (2, .row 26 2 (cellsP L) none)] := by simp [stH]
theorem jget1 {L : List KV} (hs : Srt L) (key : ByteArray) (hr : L.length * 2 ≤ room) : Ctr Tryz.prog 74 [.ptr 0 0, .str key] [] (jH L) 3 3 (.tup [.str (getL L key), .bool (hasL L key)]) (jH L) := by
  refine Ctr.introR (T := Tryz.T) Tryz.hT Tryz.hM puC_ok Tryz.func74 rfl (by kernel_rfl) rfl rfl ?_ rfl ?_
  · rw [List.append_nil]; exact jH_ok L
  conv => whnf
  refine callR [1, 2] (getS hs rfl key hr) (post' := stH 1 L []) (stH_ren rfl rfl rfl) rfl rfl rfl trivial ⟨rfl, row_ren' rfl _ (by simp [jH]; rfl), trivial⟩ ?_
  conv => whnf
  exact Fin.same (jH_ok L) rfl (by simp [lookC, jH, jH_st])
theorem jget0 (key : ByteArray) : Ctr Tryz.prog 74 [.ptr 0 0, .str key] [] jN 2 2 (.tup [.str ⟨#[]⟩, .bool false]) jN := by
  refine Ctr.introR (T := Tryz.T) Tryz.hT Tryz.hM puC_ok Tryz.func74 rfl (by kernel_rfl) rfl rfl rfl rfl ?_
  conv => whnf
  refine callR [1] (getN key) rfl rfl rfl rfl trivial ⟨rfl, trivial⟩ ?_
  conv => whnf
  exact .mk' [] rfl rfl rfl rfl rfl rfl ⟨rfl, rfl, trivial⟩
theorem jnote1 (L : List KV) (key : ByteArray) : Ctr Tryz.prog 49 [.ptr 0 0, .str key] [] (jH L) 3 3 (.tup []) (jH L) := by
  refine Ctr.introR (T := Tryz.T) Tryz.hT Tryz.hM puC_ok Tryz.func49 rfl (by kernel_rfl) rfl rfl ?_ rfl ?_
  · rw [List.append_nil]; exact jH_ok L
  conv => whnf
  exact Fin.same (jH_ok L) rfl (by simp [lookC, jH])
theorem jnote0 (key : ByteArray) : Ctr Tryz.prog 49 [.ptr 0 0, .str key] [] jN 2 2 (.tup []) jN := by
  refine Ctr.introR (T := Tryz.T) Tryz.hT Tryz.hM puC_ok Tryz.func49 rfl (by kernel_rfl) rfl rfl rfl rfl ?_
  conv => whnf
  exact .mk' [] rfl rfl rfl rfl rfl rfl ⟨rfl, rfl, trivial⟩
theorem small_no {s : ByteArray} (h : s.size ≤ 65536) : decide ((65536 : Int) < (s.size : Int)) = false := by simp; omega
theorem jH_ren {L : List KV} {π : Nat → Nat} (h0 : π 0 = 0) (h1 : π 1 = 1) (h2 : π 2 = 2) : renH π (jH L) = jH L := by simp [renH, renR, bare_ren (cellsP_bare L), jH, h0, h1, h2, renL, renA]
theorem rowL_ren' {L : List KV} {t : Nat} {c : Option Nat} {H : Heap} {k : Nat} (π : Nat → Nat) (h : SX.look H (π k) = some (.row t 2 (cellsP L) c)) : SX.look H (π k) = some (renR π (.row t 2 (cellsP L) c)) := by simp only [renR, bare_ren (cellsP_bare L)]; exact h
theorem jset1 {L : List KV} (hs : Srt L) (key v : ByteArray) (hr : (L.length + 1) * 2 ≤ room) (hk : key.size ≤ 65536) (hv : v.size ≤ 65536) (hh : hasL L key = true) :
    Ctr Tryz.prog 27 [.ptr 0 0, .str key, .str v] [] (jH L) 3 3 (.int .i64 0) (jH (setL L key v)) := by
  have hlen : (setL L key v).length = L.length := by rw [setL_length, if_pos hh]
  refine Ctr.introR (T := Tryz.T) Tryz.hT Tryz.hM puC_ok Tryz.func27 rfl (by kernel_rfl) rfl rfl ?_ rfl ?_
  · rw [List.append_nil]; exact jH_ok L
  conv => whnf
  rw [small_no hk]
  conv => whnf
  rw [small_no hv]
  conv => whnf
  refine callR [0, 1, 2] (jnote1 L key) (post' := jH L) (jH_ren rfl rfl rfl) rfl rfl rfl trivial ⟨rfl, rfl, rowL_ren' _ rfl, trivial⟩ ?_
  conv => whnf
  refine callR [1, 2] (setS1 hs (X := []) rfl key v (by omega) hh) (post' := stH 1 (setL L key v) []) (stH_ren rfl rfl rfl) rfl rfl rfl trivial ⟨rfl, row_ren' rfl _ (by simp only [List.append_nil]; rfl), trivial⟩ ?_
  conv => whnf
  refine .mk' [] rfl rfl rfl (jH_ok _) rfl rfl ⟨rfl, ?_, rowL_ren' _ ?_, trivial⟩
  · rw [hlen]; simp [stH, hlen]; rfl
  · simp [stH]; rfl
theorem jset2 {L : List KV} (hs : Srt L) (key v : ByteArray) (hr : (L.length + 1) * 2 ≤ room) (hk : key.size ≤ 65536) (hv : v.size ≤ 65536) (hh : hasL L key = false) :
    Ctr Tryz.prog 27 [.ptr 0 0, .str key, .str v] [] (jH L) 3 4 (.int .i64 0) [(0, .box 96 [.ptr 1 0, .nils]), (1, .box 139 [.sv 3 2 0 (L.length + 1) none]), (2, .gone), (3, .row 26 2 (cellsP (setL L key v)) none)] := by
  refine Ctr.introR (T := Tryz.T) Tryz.hT Tryz.hM puC_ok Tryz.func27 rfl (by kernel_rfl) rfl rfl ?_ rfl ?_
  · rw [List.append_nil]; exact jH_ok L
  conv => whnf
  rw [small_no hk]
  conv => whnf
  rw [small_no hv]
  conv => whnf
  refine callR [0, 1, 2] (jnote1 L key) (post' := jH L) (jH_ren rfl rfl rfl) rfl rfl rfl trivial ⟨rfl, rfl, rowL_ren' _ rfl, trivial⟩ ?_
  conv => whnf
  refine callR [1, 2] (setS2 hs key v hr hh) (post' := [(1, .box 139 [.sv 3 2 0 (L.length + 1) none]), (2, .gone), (3, .row 26 2 (cellsP (setL L key v)) none)]) ?_ rfl rfl rfl trivial ⟨rfl, row_ren' rfl _ (by simp only [List.append_nil]; rfl), trivial⟩ ?_
  · simp only [renH, renR, bare_ren (cellsP_bare _)]; rfl
  conv => whnf
  refine .mk' [3] rfl rfl rfl ?_ rfl rfl ⟨rfl, rfl, rfl, rowL_ren' _ rfl, trivial⟩
  simp [okH_all, okR, bare_ok (cellsP_bare _), okL_cons, okL_nil, okA_sv, okA_ptr, okA_nils]
theorem jset0 (key v : ByteArray) (hk : key.size ≤ 65536) (hv : v.size ≤ 65536) :
    Ctr Tryz.prog 27 [.ptr 0 0, .str key, .str v] [] jN 2 3 (.int .i64 0) (jH [(key, v)]) := by
  refine Ctr.introR (T := Tryz.T) Tryz.hT Tryz.hM puC_ok Tryz.func27 rfl (by kernel_rfl) rfl rfl rfl rfl ?_
  conv => whnf
  rw [small_no hk]
  conv => whnf
  rw [small_no hv]
  conv => whnf
  refine callR [0, 1] (jnote0 key) rfl rfl rfl rfl trivial ⟨rfl, rfl, trivial⟩ ?_
  conv => whnf
  refine callR [1] (setN key v) rfl rfl rfl rfl trivial ⟨rfl, trivial⟩ ?_
  conv => whnf
  exact .mk' [2] rfl rfl rfl rfl rfl rfl ⟨rfl, rfl, rfl, trivial⟩
theorem inn1 (H : Heap) (_m : Nat) : renH (inn 1 0) H = H := by
  have e : ∀ k, inn 1 0 k = k := by intro k; cases k <;> simp [inn]; omega
  induction H with
  | nil => rfl
  | cons p l ih => obtain ⟨k, r⟩ := p; simp only [renH, e, renR_id e, ih]
theorem jback0 {L : List KV} {r : AV} (hr : okA 1 r = true) (hi : ∀ π, renA π r = r) : Back (jP L) 1 1 0 r [] r (jH L) :=
  ⟨jH L, id, id, _, .inr rfl, rfl, rfl, rfl, fun _ _ => rfl, rfl, hr, rfl, (hi _).symm, ⟨rfl, rfl, rowL_ren' id rfl, trivial⟩, trivial⟩
theorem jgetP {L : List KV} (hs : Srt L) (key : ByteArray) (hr : L.length * 2 ≤ room) : Ctr Tryz.prog 74 [.ptr 0 0, .str key] [] [(0, jour L)] 1 1 (.tup [.str (getL L key), .bool (hasL L key)]) [(0, jour L)] := by
  refine Ctr.pack (rest := []) (outer := []) (by kernel_rfl) (by decide) (by decide) rfl rfl rfl rfl (fun _ _ h => by simp [lookN] at h) rfl ?_
  rintro H (⟨rfl, rfl⟩ | rfl)
  · refine ⟨1, _, _, _, rfl, by rw [inn1 _ 0, List.append_nil]; exact jget0 key, ?_⟩
    exact ⟨jN, id, id, _, .inl ⟨rfl, rfl⟩, rfl, rfl, rfl, fun _ _ => rfl, rfl, rfl, rfl, rfl, ⟨rfl, rfl, trivial⟩, trivial⟩
  · refine ⟨2, _, _, _, jH_ok L, by rw [inn1 _ 0, List.append_nil]; exact jget1 hs key hr, jback0 rfl fun _ => rfl⟩
theorem jsetP {L : List KV} (hs : Srt L) (key v : ByteArray) (hr : (L.length + 1) * 2 ≤ room) (hk : key.size ≤ 65536) (hv : v.size ≤ 65536) :
    Ctr Tryz.prog 27 [.ptr 0 0, .str key, .str v] [] [(0, jour L)] 1 1 (.int .i64 0) [(0, jour (setL L key v))] := by
  refine Ctr.pack (rest := []) (outer := []) (by kernel_rfl) (by decide) (by decide) rfl rfl rfl rfl (fun _ _ h => by simp [lookN] at h) rfl ?_
  rintro H (⟨rfl, rfl⟩ | rfl)
  · refine ⟨1, _, _, _, rfl, by rw [inn1 _ 0, List.append_nil]; exact jset0 key v hk hv, jback0 rfl fun _ => rfl⟩
  · cases hh : hasL L key with
    | true => exact ⟨2, _, _, _, jH_ok L, by rw [inn1 _ 0, List.append_nil]; exact jset1 hs key v hr hk hv hh, jback0 rfl fun _ => rfl⟩
    | false =>
      have hlen : (setL L key v).length = L.length + 1 := by rw [setL_length, hh]; simp
      refine ⟨2, _, _, _, jH_ok L, by rw [inn1 _ 0, List.append_nil]; exact jset2 hs key v hr hk hv hh, ?_⟩
      exact ⟨jH (setL L key v), sg [0, 1, 3] 9, id, _, .inr rfl, rfl, rfl, rfl, fun _ _ => rfl, rfl, rfl, rfl, rfl, ⟨rfl, by rw [hlen]; rfl, rowL_ren' _ rfl, trivial⟩, trivial⟩
/-- What is too long is not set. -/
theorem jsetL {L : List KV} (key v : ByteArray) (hk : 65536 < key.size ∨ 65536 < v.size) :
    Ctr Tryz.prog 27 [.ptr 0 0, .str key, .str v] [] [(0, jour L)] 1 1 (.int .i64 4) [(0, jour L)] := by
  refine Ctr.introR (T := Tryz.T) Tryz.hT Tryz.hM puC_ok Tryz.func27 rfl (by kernel_rfl) rfl rfl rfl rfl ?_
  conv => whnf
  cases h1 : decide ((65536 : Int) < (key.size : Int)) with
  | true =>
    conv => whnf
    exact .mk' [] rfl rfl rfl rfl rfl rfl ⟨rfl, trivial⟩
  | false =>
    have h2 : decide ((65536 : Int) < (v.size : Int)) = true := by simp at h1 ⊢; omega
    conv => whnf
    rw [h2]
    conv => whnf
    exact .mk' [] rfl rfl rfl rfl rfl rfl ⟨rfl, trivial⟩
/-- New, over no store. -/
theorem jnewP : Ctr Tryz.prog 46 [.nilp] [] [] 0 1 (.ptr 0 0) [(0, jour [])] := by
  have h : Ctr Tryz.prog 46 [.nilp] [] [] 0 2 (.ptr 1 0) [(0, .box 139 [.nils]), (1, .box 96 [.ptr 0 0, .nils])] := Tryz.ev_ok 80 (show Tryz.ev 80 46 [.nilp] [] [] 0 = .ok (.ptr 1 0, [(0, .box 139 [.nils]), (1, .box 96 [.ptr 0 0, .nils])], 2) by kernel_rfl)
  refine h.fold (h := 0) (outer := []) (by decide) (by decide) rfl rfl (fun _ _ h => by simp [lookN] at h) ?_ rfl
  exact ⟨jN, sg [1, 0] 9, sg [1] 9, _, .inl ⟨rfl, rfl⟩, rfl, rfl, rfl, fun _ h => absurd h (Nat.not_lt_zero _), rfl, rfl, rfl, rfl, ⟨rfl, rfl, trivial⟩, trivial⟩
end Go.Proofs.YtglkoaajgekonaaGreatDoor
