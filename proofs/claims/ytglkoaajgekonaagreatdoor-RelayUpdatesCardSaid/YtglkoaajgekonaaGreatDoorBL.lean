/- A chain's blocks, over whatever store. -/
import Derived.Test.YtglkoaajgekonaaGreatDoorHD
import Derived.Test.YtglkoaajgekonaaGreatDoorLS
import Derived.Test.YtglkoaajgekonaaGreatDoorCH
import Derived.Test.YtglkoaajgekonaaGreatDoorSXSL
namespace Go.Proofs.YtglkoaajgekonaaGreatDoor
open Go.SX
noncomputable def cbox (B : AV) : Res := .box 81 [.str alW, .ptr 1 0, B, .int .i64 0, .nils, .nils]
def rawB (L : List KV) (h : Nat) : ByteArray := catB (headB alW (h : Int) 0 (rootB L)) (textS (macA (headB alW (h : Int) 0 (rootB L))))
theorem jdepthQ (L : List KV) : Ctr Tryz.prog 51 [.ptr 0 0] [] [(0, jour L)] 1 1 (.int .i64 0) [(0, jour L)] := by
  refine Ctr.pack (rest := []) (outer := []) (by kernel_rfl) (by decide) (by decide) rfl rfl rfl rfl (fun _ _ h => by simp [lookN] at h) rfl ?_
  rintro H (⟨rfl, rfl⟩ | rfl)
  · refine ⟨1, 2, .int .i64 0, jN, rfl, ?_, ?_⟩
    · rw [inn1 _ 0, List.append_nil]
      refine Ctr.introR (T := Tryz.T) Tryz.hT Tryz.hM puH_ok Tryz.func51 rfl (by kernel_rfl) rfl rfl rfl rfl ?_
      conv => whnf
      exact .mk' [] rfl rfl rfl rfl rfl rfl ⟨rfl, rfl, trivial⟩
    · exact ⟨jN, id, id, _, .inl ⟨rfl, rfl⟩, rfl, rfl, rfl, fun _ _ => rfl, rfl, rfl, rfl, rfl, ⟨rfl, rfl, trivial⟩, trivial⟩
  · refine ⟨2, 3, .int .i64 0, jH L, jH_ok L, ?_, jback0 rfl fun _ => rfl⟩
    rw [inn1 _ 0, List.append_nil]
    refine Ctr.introR (T := Tryz.T) Tryz.hT Tryz.hM puH_ok Tryz.func51 rfl (by kernel_rfl) rfl rfl ?_ rfl ?_
    · rw [List.append_nil]; exact jH_ok L
    conv => whnf
    exact Fin.same (jH_ok L) rfl (by simp [lookC, jH])
theorem beqn {n : Nat} (h : 0 < n) : Nat.beq n 0 = false := by
  cases n with
  | zero => omega
  | succ k => rfl
theorem bltn {n : Nat} (h : 0 < n) : Nat.blt 0 n = true := Nat.ble_eq_true_of_le h
theorem flat_cells {L : List KV} : ∀ (n i : Nat), i + n = L.length → Go.SX.flatC 2 (cellF L) i n = cellsP (L.drop i)
  | 0, i, h => by rw [List.drop_of_length_le (by omega)]; rfl
  | n + 1, i, h => by
    have hi : i < L.length := by omega
    have hc := cellsP_get hi
    have e0 : cellF L i 0 = .str L[i].1 := by unfold cellF; rw [Nat.add_zero, hc.1]; rfl
    have e1 : cellF L i 1 = .str L[i].2 := by unfold cellF; rw [hc.2]; rfl
    rw [List.drop_eq_getElem_cons hi, cellsP, ← flat_cells n (i + 1) (by omega), ← e0, ← e1]
    rfl
-- BLOCKS
theorem now0 (L : List KV) : Ctr Tryz.prog 53 [.ptr 0 0] [] [(0, cbox (.nils))] 3 3 (.agg [.int .i64 1, .int .i64 0]) [(0, cbox (.nils))] := by
  refine Ctr.introR (T := Tryz.T) Tryz.hT Tryz.hM Tryz.hE Tryz.func53 rfl (by kernel_rfl) rfl rfl rfl rfl ?_
  conv => whnf
  exact .mk' [] rfl rfl rfl rfl rfl rfl ⟨rfl, trivial⟩
theorem block0 {L : List KV} (hs : Srt L) (h1 : 1 ≤ L.length) (h40 : L.length ≤ 40) (hle : L.length * 2 ≤ room) : Ctr Tryz.prog 28 [.ptr 0 0] [] [(0, cbox (.nils)), (1, jour L)] 2 4 (.int .i64 0) [(0, cbox (.sv 3 2 0 1 none)), (1, jour L), (2, rowD L (some L.length)), (3, .row 74 2 [.str (rawB L 1), .sv 2 2 0 L.length (some L.length)] none)] := by
  have ok3 : okH3 alW 1 0 (rootB L) := ⟨by decide, by decide, by decide, by rw [rootB_size]; omega⟩
  refine Ctr.introR (T := Tryz.T) Tryz.hT Tryz.hM Tryz.hE Tryz.func28 rfl (by kernel_rfl) rfl rfl rfl rfl ?_
  conv => whnf
  refine callR [1] (jdepthQ L) rfl rfl rfl rfl trivial ⟨rfl, trivial⟩ ?_
  conv => whnf
  refine callR [1] (jlistP hs hle) rfl rfl rfl rfl trivial ⟨rfl, trivial⟩ ?_
  conv => whnf
  refine ⟨⟨by omega, by omega, by unfold room at hle; omega, by rw [Int.toNat_natCast]; exact hle⟩, ?_⟩
  rw [spine_eq, Int.toNat_natCast]
  generalize hZ : repA L.length 2 [AV.str ⟨#[]⟩, AV.str ⟨#[]⟩] = Z
  conv => whnf
  have hflat : Go.SX.flatC 2 (lst none L.length 2 (cellF L)).cell 0 (min (lst none L.length 2 (cellF L)).len L.length) = cellsP L := by
    rw [show min (lst none L.length 2 (cellF L)).len L.length = L.length from Nat.min_self _]
    exact flat_cells L.length 0 (Nat.zero_add _)
  rw [hflat, show (cellsP L).all leafA = true from bare_leaf (cellsP_bare L), show Nat.beq (min (lst none L.length 2 (cellF L)).len L.length) 0 = false by
    rw [show min (lst none L.length 2 (cellF L)).len L.length = L.length from Nat.min_self _]; exact beqn h1]
  conv => whnf
  have hZl : Z.length = L.length * 2 := by rw [← hZ]; simp [repA]
  rw [show min (lst none L.length 2 (cellF L)).len L.length = L.length from Nat.min_self _, show Nat.blt 0 L.length = true from bltn h1, show Nat.ble (0 * 2) Z.length = true from Nat.ble_eq_true_of_le (by omega)]
  conv => whnf
  rw [spine_rec, show splice Z (0 * 2) (cellsP L) = cellsP L by
    rw [splice_def, Nat.zero_mul, List.take_zero, List.nil_append, List.drop_of_length_le (by rw [cellsP_len]; omega), List.append_nil]]
  conv => whnf
  refine callR [0, 1, 2] (now0 L) rfl rfl rfl rfl trivial ⟨rfl, trivial⟩ ?_
  conv => whnf
  refine ⟨by decide, ?_⟩
  conv => whnf
  refine callR [3] (rootP (L := L) (d := some L.length) h1 h40 (Nat.le_refl _)) (post' := [(3, rowD L (some L.length))]) (by simp only [renH, rowD_ren]; rfl) rfl rfl rfl trivial ⟨rowD_at _ rfl, trivial⟩ ?_
  conv => whnf
  rw [show catB ⟨#[107, 101, 121, 32, 111, 102, 32]⟩ alW = kalW from rfl]
  refine callR [] (signP (m := ⟨#[]⟩) ok3) rfl rfl rfl rfl trivial trivial ?_
  conv => whnf
  refine callR [] (hputP (m := macA (headB alW 1 0 (rootB L))) ok3 (by rw [macA_size]; omega)) rfl rfl rfl rfl trivial trivial ?_
  rw [show catB (headB alW 1 0 (rootB L)) (textS (macA (headB alW 1 0 (rootB L)))) = rawB L 1 from rfl]
  generalize rawB L 1 = rw_
  conv => whnf
  refine ⟨by decide, ?_⟩
  conv => whnf
  refine .mk' [3, 7] rfl rfl rfl ?_ rfl rfl ⟨rfl, rfl, rowD_at _ rfl, rfl, trivial⟩
  simp [okH_all, okR, cbox, rowD, bare_ok (cellsP_bare L), okL_cons, okL_nil, okA_str, okA_ptr, okA_int, okA_nils, okA_sv, jour]
theorem now1 (L : List KV) : Ctr Tryz.prog 53 [.ptr 0 0] [] [(0, cbox (.sv 2 2 0 1 none))] 3 3 (.agg [.int .i64 2, .int .i64 0]) [(0, cbox (.sv 2 2 0 1 none))] := by
  refine Ctr.introR (T := Tryz.T) Tryz.hT Tryz.hM Tryz.hE Tryz.func53 rfl (by kernel_rfl) rfl rfl rfl rfl ?_
  conv => whnf
  exact .mk' [] rfl rfl rfl rfl rfl rfl ⟨rfl, trivial⟩
theorem block1 {L : List KV} (hs : Srt L) (h1 : 1 ≤ L.length) (h40 : L.length ≤ 40) (hle : L.length * 2 ≤ room) : Ctr Tryz.prog 28 [.ptr 0 0] [] [(0, cbox (.sv 2 2 0 1 none)), (1, jour L), (2, .row 74 2 [.str (rawB L 1), .sv 3 2 0 L.length (some L.length)] none)] 4 6 (.int .i64 0) [(0, cbox (.sv 5 2 0 2 none)), (1, jour L), (2, .gone), (4, rowD L (some L.length)), (5, .row 74 2 [.str (rawB L 1), .sv 3 2 0 L.length (some L.length), .str (rawB L 2), .sv 4 2 0 L.length (some L.length)] none)] := by
  have ok3 : okH3 alW 2 0 (rootB L) := ⟨by decide, by decide, by decide, by rw [rootB_size]; omega⟩
  refine Ctr.introR (T := Tryz.T) Tryz.hT Tryz.hM Tryz.hE Tryz.func28 rfl (by kernel_rfl) rfl rfl rfl rfl ?_
  conv => whnf
  refine callR [1] (jdepthQ L) rfl rfl rfl rfl trivial ⟨rfl, trivial⟩ ?_
  conv => whnf
  refine callR [1] (jlistP hs hle) rfl rfl rfl rfl trivial ⟨rfl, trivial⟩ ?_
  conv => whnf
  refine ⟨⟨by omega, by omega, by unfold room at hle; omega, by rw [Int.toNat_natCast]; exact hle⟩, ?_⟩
  rw [spine_eq, Int.toNat_natCast]
  generalize hZ : repA L.length 2 [AV.str ⟨#[]⟩, AV.str ⟨#[]⟩] = Z
  conv => whnf
  have hflat : Go.SX.flatC 2 (lst none L.length 2 (cellF L)).cell 0 (min (lst none L.length 2 (cellF L)).len L.length) = cellsP L := by
    rw [show min (lst none L.length 2 (cellF L)).len L.length = L.length from Nat.min_self _]
    exact flat_cells L.length 0 (Nat.zero_add _)
  rw [hflat, show (cellsP L).all leafA = true from bare_leaf (cellsP_bare L), show Nat.beq (min (lst none L.length 2 (cellF L)).len L.length) 0 = false by
    rw [show min (lst none L.length 2 (cellF L)).len L.length = L.length from Nat.min_self _]; exact beqn h1]
  conv => whnf
  have hZl : Z.length = L.length * 2 := by rw [← hZ]; simp [repA]
  rw [show min (lst none L.length 2 (cellF L)).len L.length = L.length from Nat.min_self _, show Nat.blt 0 L.length = true from bltn h1, show Nat.ble (0 * 2) Z.length = true from Nat.ble_eq_true_of_le (by omega)]
  conv => whnf
  rw [spine_rec, show splice Z (0 * 2) (cellsP L) = cellsP L by
    rw [splice_def, Nat.zero_mul, List.take_zero, List.nil_append, List.drop_of_length_le (by rw [cellsP_len]; omega), List.append_nil]]
  conv => whnf
  refine callR [0, 1, 2] (now1 L) rfl rfl rfl rfl trivial ⟨rfl, trivial⟩ ?_
  conv => whnf
  refine ⟨by decide, ?_⟩
  conv => whnf
  refine callR [5] (rootP (L := L) (d := some L.length) h1 h40 (Nat.le_refl _)) (post' := [(5, rowD L (some L.length))]) (by simp only [renH, rowD_ren]; rfl) rfl rfl rfl trivial ⟨rowD_at _ rfl, trivial⟩ ?_
  conv => whnf
  rw [show catB ⟨#[107, 101, 121, 32, 111, 102, 32]⟩ alW = kalW from rfl]
  refine callR [] (signP (m := ⟨#[]⟩) ok3) rfl rfl rfl rfl trivial trivial ?_
  conv => whnf
  refine callR [] (hputP (m := macA (headB alW 2 0 (rootB L))) ok3 (by rw [macA_size]; omega)) rfl rfl rfl rfl trivial trivial ?_
  rw [show catB (headB alW 2 0 (rootB L)) (textS (macA (headB alW 2 0 (rootB L)))) = rawB L 2 from rfl]
  generalize rawB L 2 = rw_
  conv => whnf
  refine ⟨by decide, ?_⟩
  conv => whnf
  refine .mk' [5, 9] rfl rfl rfl ?_ rfl rfl ⟨rfl, rfl, rfl, rowD_at _ rfl, rfl, trivial⟩
  simp [okH_all, okR, cbox, rowD, bare_ok (cellsP_bare L), okL_cons, okL_nil, okA_str, okA_ptr, okA_int, okA_nils, okA_sv, jour]
theorem now2 (L : List KV) : Ctr Tryz.prog 53 [.ptr 0 0] [] [(0, cbox (.sv 2 2 0 2 none))] 3 3 (.agg [.int .i64 3, .int .i64 0]) [(0, cbox (.sv 2 2 0 2 none))] := by
  refine Ctr.introR (T := Tryz.T) Tryz.hT Tryz.hM Tryz.hE Tryz.func53 rfl (by kernel_rfl) rfl rfl rfl rfl ?_
  conv => whnf
  exact .mk' [] rfl rfl rfl rfl rfl rfl ⟨rfl, trivial⟩
theorem block2 {L : List KV} (hs : Srt L) (h1 : 1 ≤ L.length) (h40 : L.length ≤ 40) (hle : L.length * 2 ≤ room) : Ctr Tryz.prog 28 [.ptr 0 0] [] [(0, cbox (.sv 2 2 0 2 none)), (1, jour L), (2, .row 74 2 [.str (rawB L 1), .sv 3 2 0 L.length (some L.length), .str (rawB L 2), .sv 4 2 0 L.length (some L.length)] none)] 5 7 (.int .i64 0) [(0, cbox (.sv 6 2 0 3 none)), (1, jour L), (2, .gone), (5, rowD L (some L.length)), (6, .row 74 2 [.str (rawB L 1), .sv 3 2 0 L.length (some L.length), .str (rawB L 2), .sv 4 2 0 L.length (some L.length), .str (rawB L 3), .sv 5 2 0 L.length (some L.length)] none)] := by
  have ok3 : okH3 alW 3 0 (rootB L) := ⟨by decide, by decide, by decide, by rw [rootB_size]; omega⟩
  refine Ctr.introR (T := Tryz.T) Tryz.hT Tryz.hM Tryz.hE Tryz.func28 rfl (by kernel_rfl) rfl rfl rfl rfl ?_
  conv => whnf
  refine callR [1] (jdepthQ L) rfl rfl rfl rfl trivial ⟨rfl, trivial⟩ ?_
  conv => whnf
  refine callR [1] (jlistP hs hle) rfl rfl rfl rfl trivial ⟨rfl, trivial⟩ ?_
  conv => whnf
  refine ⟨⟨by omega, by omega, by unfold room at hle; omega, by rw [Int.toNat_natCast]; exact hle⟩, ?_⟩
  rw [spine_eq, Int.toNat_natCast]
  generalize hZ : repA L.length 2 [AV.str ⟨#[]⟩, AV.str ⟨#[]⟩] = Z
  conv => whnf
  have hflat : Go.SX.flatC 2 (lst none L.length 2 (cellF L)).cell 0 (min (lst none L.length 2 (cellF L)).len L.length) = cellsP L := by
    rw [show min (lst none L.length 2 (cellF L)).len L.length = L.length from Nat.min_self _]
    exact flat_cells L.length 0 (Nat.zero_add _)
  rw [hflat, show (cellsP L).all leafA = true from bare_leaf (cellsP_bare L), show Nat.beq (min (lst none L.length 2 (cellF L)).len L.length) 0 = false by
    rw [show min (lst none L.length 2 (cellF L)).len L.length = L.length from Nat.min_self _]; exact beqn h1]
  conv => whnf
  have hZl : Z.length = L.length * 2 := by rw [← hZ]; simp [repA]
  rw [show min (lst none L.length 2 (cellF L)).len L.length = L.length from Nat.min_self _, show Nat.blt 0 L.length = true from bltn h1, show Nat.ble (0 * 2) Z.length = true from Nat.ble_eq_true_of_le (by omega)]
  conv => whnf
  rw [spine_rec, show splice Z (0 * 2) (cellsP L) = cellsP L by
    rw [splice_def, Nat.zero_mul, List.take_zero, List.nil_append, List.drop_of_length_le (by rw [cellsP_len]; omega), List.append_nil]]
  conv => whnf
  refine callR [0, 1, 2] (now2 L) rfl rfl rfl rfl trivial ⟨rfl, trivial⟩ ?_
  conv => whnf
  refine ⟨by decide, ?_⟩
  conv => whnf
  refine callR [6] (rootP (L := L) (d := some L.length) h1 h40 (Nat.le_refl _)) (post' := [(6, rowD L (some L.length))]) (by simp only [renH, rowD_ren]; rfl) rfl rfl rfl trivial ⟨rowD_at _ rfl, trivial⟩ ?_
  conv => whnf
  rw [show catB ⟨#[107, 101, 121, 32, 111, 102, 32]⟩ alW = kalW from rfl]
  refine callR [] (signP (m := ⟨#[]⟩) ok3) rfl rfl rfl rfl trivial trivial ?_
  conv => whnf
  refine callR [] (hputP (m := macA (headB alW 3 0 (rootB L))) ok3 (by rw [macA_size]; omega)) rfl rfl rfl rfl trivial trivial ?_
  rw [show catB (headB alW 3 0 (rootB L)) (textS (macA (headB alW 3 0 (rootB L)))) = rawB L 3 from rfl]
  generalize rawB L 3 = rw_
  conv => whnf
  refine ⟨by decide, ?_⟩
  conv => whnf
  refine .mk' [6, 10] rfl rfl rfl ?_ rfl rfl ⟨rfl, rfl, rfl, rowD_at _ rfl, rfl, trivial⟩
  simp [okH_all, okR, cbox, rowD, bare_ok (cellsP_bare L), okL_cons, okL_nil, okA_str, okA_ptr, okA_int, okA_nils, okA_sv, jour]
theorem now3 (L : List KV) : Ctr Tryz.prog 53 [.ptr 0 0] [] [(0, cbox (.sv 2 2 0 3 none))] 3 3 (.agg [.int .i64 4, .int .i64 0]) [(0, cbox (.sv 2 2 0 3 none))] := by
  refine Ctr.introR (T := Tryz.T) Tryz.hT Tryz.hM Tryz.hE Tryz.func53 rfl (by kernel_rfl) rfl rfl rfl rfl ?_
  conv => whnf
  exact .mk' [] rfl rfl rfl rfl rfl rfl ⟨rfl, trivial⟩
theorem block3 {L : List KV} (hs : Srt L) (h1 : 1 ≤ L.length) (h40 : L.length ≤ 40) (hle : L.length * 2 ≤ room) : Ctr Tryz.prog 28 [.ptr 0 0] [] [(0, cbox (.sv 2 2 0 3 none)), (1, jour L), (2, .row 74 2 [.str (rawB L 1), .sv 3 2 0 L.length (some L.length), .str (rawB L 2), .sv 4 2 0 L.length (some L.length), .str (rawB L 3), .sv 5 2 0 L.length (some L.length)] none)] 6 8 (.int .i64 0) [(0, cbox (.sv 7 2 0 4 none)), (1, jour L), (2, .gone), (6, rowD L (some L.length)), (7, .row 74 2 [.str (rawB L 1), .sv 3 2 0 L.length (some L.length), .str (rawB L 2), .sv 4 2 0 L.length (some L.length), .str (rawB L 3), .sv 5 2 0 L.length (some L.length), .str (rawB L 4), .sv 6 2 0 L.length (some L.length)] none)] := by
  have ok3 : okH3 alW 4 0 (rootB L) := ⟨by decide, by decide, by decide, by rw [rootB_size]; omega⟩
  refine Ctr.introR (T := Tryz.T) Tryz.hT Tryz.hM Tryz.hE Tryz.func28 rfl (by kernel_rfl) rfl rfl rfl rfl ?_
  conv => whnf
  refine callR [1] (jdepthQ L) rfl rfl rfl rfl trivial ⟨rfl, trivial⟩ ?_
  conv => whnf
  refine callR [1] (jlistP hs hle) rfl rfl rfl rfl trivial ⟨rfl, trivial⟩ ?_
  conv => whnf
  refine ⟨⟨by omega, by omega, by unfold room at hle; omega, by rw [Int.toNat_natCast]; exact hle⟩, ?_⟩
  rw [spine_eq, Int.toNat_natCast]
  generalize hZ : repA L.length 2 [AV.str ⟨#[]⟩, AV.str ⟨#[]⟩] = Z
  conv => whnf
  have hflat : Go.SX.flatC 2 (lst none L.length 2 (cellF L)).cell 0 (min (lst none L.length 2 (cellF L)).len L.length) = cellsP L := by
    rw [show min (lst none L.length 2 (cellF L)).len L.length = L.length from Nat.min_self _]
    exact flat_cells L.length 0 (Nat.zero_add _)
  rw [hflat, show (cellsP L).all leafA = true from bare_leaf (cellsP_bare L), show Nat.beq (min (lst none L.length 2 (cellF L)).len L.length) 0 = false by
    rw [show min (lst none L.length 2 (cellF L)).len L.length = L.length from Nat.min_self _]; exact beqn h1]
  conv => whnf
  have hZl : Z.length = L.length * 2 := by rw [← hZ]; simp [repA]
  rw [show min (lst none L.length 2 (cellF L)).len L.length = L.length from Nat.min_self _, show Nat.blt 0 L.length = true from bltn h1, show Nat.ble (0 * 2) Z.length = true from Nat.ble_eq_true_of_le (by omega)]
  conv => whnf
  rw [spine_rec, show splice Z (0 * 2) (cellsP L) = cellsP L by
    rw [splice_def, Nat.zero_mul, List.take_zero, List.nil_append, List.drop_of_length_le (by rw [cellsP_len]; omega), List.append_nil]]
  conv => whnf
  refine callR [0, 1, 2] (now3 L) rfl rfl rfl rfl trivial ⟨rfl, trivial⟩ ?_
  conv => whnf
  refine ⟨by decide, ?_⟩
  conv => whnf
  refine callR [7] (rootP (L := L) (d := some L.length) h1 h40 (Nat.le_refl _)) (post' := [(7, rowD L (some L.length))]) (by simp only [renH, rowD_ren]; rfl) rfl rfl rfl trivial ⟨rowD_at _ rfl, trivial⟩ ?_
  conv => whnf
  rw [show catB ⟨#[107, 101, 121, 32, 111, 102, 32]⟩ alW = kalW from rfl]
  refine callR [] (signP (m := ⟨#[]⟩) ok3) rfl rfl rfl rfl trivial trivial ?_
  conv => whnf
  refine callR [] (hputP (m := macA (headB alW 4 0 (rootB L))) ok3 (by rw [macA_size]; omega)) rfl rfl rfl rfl trivial trivial ?_
  rw [show catB (headB alW 4 0 (rootB L)) (textS (macA (headB alW 4 0 (rootB L)))) = rawB L 4 from rfl]
  generalize rawB L 4 = rw_
  conv => whnf
  refine ⟨by decide, ?_⟩
  conv => whnf
  refine .mk' [7, 11] rfl rfl rfl ?_ rfl rfl ⟨rfl, rfl, rfl, rowD_at _ rfl, rfl, trivial⟩
  simp [okH_all, okR, cbox, rowD, bare_ok (cellsP_bare L), okL_cons, okL_nil, okA_str, okA_ptr, okA_int, okA_nils, okA_sv, jour]
end Go.Proofs.YtglkoaajgekonaaGreatDoor
