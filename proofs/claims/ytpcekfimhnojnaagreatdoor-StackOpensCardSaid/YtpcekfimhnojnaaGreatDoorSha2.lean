import Derived.Test.YtpcekfimhnojnaaGreatDoorTab
import Derived.Test.YtpcekfimhnojnaaGreatDoorSXU
import Derived.Test.YtpcekfimhnojnaaGreatDoorSha1
namespace Go.Proofs.YtpcekfimhnojnaaGreatDoor
open Go.SX

theorem tn (x : Int) (m : Nat) (h2 : m ≤ 32) : Ctr Tryz.prog 358 [.int .u32 x, .int .u64 (m : Int)] [] [] 0 0 (.int .u32 (turnI x m)) [] := by
  refine Ctr.introR (T := Tryz.T) Tryz.hT Tryz.hM Tryz.hE Tryz.func358 rfl (by kernel_rfl) rfl rfl rfl rfl ?_
  have hs : IntKind.u64.wrap (32 - (m : Int)) = ((32 - m : Nat) : Int) := by
    rw [show (32 : Int) - (m : Int) = ((32 - m : Nat) : Int) by omega, wrap_nat64 _ (by omega)]
  conv => whnf
  refine ⟨Int.natCast_nonneg _, ?_⟩
  conv => whnf
  simp only [hs]
  refine ⟨Int.natCast_nonneg _, ?_⟩
  conv => whnf
  exact Fin.same rfl rfl (by simp)

theorem turn_ok : PureOK Tryz.prog (turnP 358) := by
  intro g vs v h
  unfold turnP at h
  split at h
  · rename_i x m hg
    have hg := Nat.eq_of_beq_eq_true hg
    subst hg
    split at h
    · rename_i hb
      cases h
      exact .inl fun n => (tn x m (Nat.le_of_ble_eq_true hb)).anyN (by simp [bareA]) rfl n
    · cases h
  · cases h

theorem word (b : ByteArray) (a : Nat) (ha : a ≤ 60) : Ctr Tryz.prog 357 [.str b, .int .i64 (a : Int)] [] [] 0 0 (.int .u32 ((wrd b.data.toList a 4 : Nat) : Int)) [] := by
  refine Ctr.introR (T := Tryz.T) Tryz.hT Tryz.hM Tryz.hE Tryz.func357 rfl (by kernel_rfl) rfl rfl rfl rfl ?_
  have e0 : IntKind.i64.wrap ((a : Int) + 4) = ((a + 4 : Nat) : Int) := by rw [wrap_small] <;> omega
  conv => whnf
  refine loopR Tryz.hT Tryz.hM Tryz.hE (α := {j : Nat // j ≤ 4})
    (fun j => ([(0, .str b), (1, .int .i64 (a : Int)), (5, .int .u32 ((wrd b.data.toList a j.1 : Nat) : Int)), (6, .int .i64 ((a + j.1 : Nat) : Int))], []))
    (fun j => 4 - j.1) 0 ⟨0, Nat.zero_le _⟩ [] ?_ ?_
  · refine Incl.same ?_ ?_ rfl rfl rfl (Nat.zero_le _) rfl
    · intro p hp
      simp only [List.mem_cons, List.not_mem_nil, or_false] at hp
      rcases hp with rfl | rfl | rfl | rfl <;> rfl
    · intro p hp; cases hp
  · rintro ⟨j, hj⟩
    conv => whnf
    simp only [e0]
    refine bcase_intro (fun h => ?_) (fun h => ?_)
    · have h : j < 4 := by simp at h; omega
      conv => whnf
      refine bcase_intro (fun h1 => ?_) (fun h1 => ?_)
      · have h1 : a + j < b.size := by simp at h1; omega
        have e5 := byteAt_eq h1
        have e6 : IntKind.u32.wrap ((byteD b.data.toList (a + j) : Nat) : Int) = ((byteD b.data.toList (a + j) : Nat) : Int) := wrap_nat32 _ (by have := byteD_lt b.data.toList (a + j); omega)
        conv => whnf
        refine ⟨by omega, ?_⟩
        conv => whnf
        simp only [e5, e6, i_shl8, i_or]
        have e7 : IntKind.i64.wrap (((a + j : Nat) : Int) + 1) = ((a + (j + 1) : Nat) : Int) := by rw [wrap_small] <;> omega
        simp only [e7]
        refine ⟨⟨j + 1, by omega⟩, [], (by simp only; omega), Incl.same ?_ ?_ rfl rfl rfl (Nat.zero_le _) rfl⟩
        · intro p hp
          simp only [List.mem_cons, List.not_mem_nil, or_false] at hp
          rcases hp with rfl | rfl | rfl | rfl <;> rfl
        · intro p hp; cases hp
      · have h1 : b.size ≤ a + j := by simp at h1; omega
        conv => whnf
        have e7 : IntKind.i64.wrap (((a + j : Nat) : Int) + 1) = ((a + (j + 1) : Nat) : Int) := by rw [wrap_small] <;> omega
        simp only [e7, i_shl8]
        have e8 : wrd b.data.toList a (j + 1) = shl32 (wrd b.data.toList a j) 8 := by
          rw [wrd, byteD_end h1, or_zero]
        refine ⟨⟨j + 1, by omega⟩, [], (by simp only; omega), Incl.same ?_ ?_ rfl rfl rfl (Nat.zero_le _) rfl⟩
        · simp only [e8]
          intro p hp
          simp only [List.mem_cons, List.not_mem_nil, or_false] at hp
          rcases hp with rfl | rfl | rfl | rfl <;> rfl
        · intro p hp; cases hp
    · have h : j = 4 := by simp at h; omega
      subst h
      conv => whnf
      exact Fin.same rfl rfl (by simp)

set_option maxRecDepth 20000 in
theorem constsR : Ctr Tryz.prog 359 [] [] [] 0 0 (.agg (mkW K64)) [] := by
  refine Ctr.introR (T := Tryz.T) Tryz.hT Tryz.hM Tryz.hE Tryz.func359 rfl (by kernel_rfl) rfl rfl rfl rfl ?_
  conv => whnf
  exact .mk' [] rfl rfl rfl rfl (by rw [okA_agg]; exact bare_ok (mkW_bare _)) (by kernel_rfl) trivial

noncomputable def puV : Pure := fun g vs => match Nat.beq g 357, vs with
  | true, [.str b, .int .i64 (.ofNat a)] => match Nat.ble a 60 with
    | true => some (.int .u32 ((wrd b.data.toList a 4 : Nat) : Int))
    | false => none
  | _, _ => match Nat.beq g 359, vs with
    | true, [] => some (.agg (mkW K64))
    | _, _ => none
theorem puV_ok : PureOK Tryz.prog puV := by
  intro g vs v h
  unfold puV at h
  split at h
  · rename_i b a hg
    have hg := Nat.eq_of_beq_eq_true hg
    subst hg
    split at h
    · rename_i hb
      cases h
      exact .inl fun n => (word b a (Nat.le_of_ble_eq_true hb)).anyN (by simp [bareA]) rfl n
    · cases h
  · split at h
    · rename_i hg _
      have hg := Nat.eq_of_beq_eq_true hg
      subst hg
      cases h
      exact .inl fun n => constsR.anyN rfl (by rw [okA_agg]; exact bare_ok (mkW_bare _)) n
    · cases h
noncomputable def pu3 : Pure := orP puV (orP (turnP 358) (extPure Tryz.exts))
theorem pu3_ok : PureOK Tryz.prog pu3 := orP_ok puV_ok (orP_ok turn_ok Tryz.hE)

theorem pu3w (b : ByteArray) {a : Nat} (ha : a ≤ 60) : pu3 357 [.str b, .int .i64 (a : Int)] = some (.int .u32 ((wrd b.data.toList a 4 : Nat) : Int)) := by
  have : puV 357 [.str b, .int .i64 (a : Int)] = some (.int .u32 ((wrd b.data.toList a 4 : Nat) : Int)) := by
    show (match Nat.ble a 60 with | true => some (AV.int .u32 ((wrd b.data.toList a 4 : Nat) : Int)) | false => none) = _
    rw [Nat.ble_eq_true_of_le ha]
  unfold pu3 orP
  rw [this]

theorem blkRef (r : R8) (b : ByteArray) : Ctr Tryz.prog 316 [.agg (mkW r.l), .str b] [] [] 0 0 (.agg (mkW (blkR K64 r b.data.toList).l)) [] := by
  refine Ctr.introR (T := Tryz.T) Tryz.hT Tryz.hM pu3_ok Tryz.func316 rfl (by kernel_rfl) rfl (by simp [okL_cons, okL_nil, okA_agg, okA_str, bare_ok (mkW_bare _)]) rfl rfl ?_
  conv => whnf
  refine loopR Tryz.hT Tryz.hM pu3_ok (α := {t : Nat // t ≤ 16})
    (fun t => ([(1, .str b), (2, .ptr 0 0), (4, .ptr 1 0), (5, .ptr 2 0), (6, .int .i64 (t.1 : Int))], [(0, .box 373 (mkW r.l)), (1, .box 373 (mkW (List.replicate 8 0))), (2, .box 430 (mkW (sw1 b.data.toList t.1)))]))
    (fun t => 16 - t.1) 3 ⟨0, Nat.zero_le _⟩ [] ?_ ?_
  · refine Incl.same ?_ ?_ rfl ?_ rfl (Nat.zero_le _) rfl
    · intro p hp
      simp only [List.mem_cons, List.not_mem_nil, or_false] at hp
      rcases hp with rfl | rfl | rfl | rfl | rfl <;> rfl
    · intro p hp
      simp only [List.mem_cons, List.not_mem_nil, or_false] at hp
      rcases hp with rfl | rfl | rfl <;> rfl
    · simp [okH_all, okR, bare_ok (mkW_bare _)]
  · rintro ⟨t, ht⟩
    conv => whnf
    refine bcase_intro (fun h => ?_) (fun h => ?_)
    · have h : t < 16 := by simp at h; omega
      have e1 : IntKind.i64.wrap (4 * (t : Int)) = ((4 * t : Nat) : Int) := by rw [wrap_small] <;> omega
      conv => whnf
      simp only [e1]
      rw [pu3w b (by omega)]
      conv => whnf
      refine ⟨by omega, ?_⟩
      conv => whnf
      have hlt : t < (sw1 b.data.toList t).length := by rw [sw1_len]; omega
      simp only [cellsOf, spine_eq, Int.toNat_natCast, Nat.zero_add, Nat.mul_one, splice_mk hlt]
      rw [ble_mk hlt]
      conv => whnf
      have e7 : IntKind.i64.wrap ((t : Int) + 1) = ((t + 1 : Nat) : Int) := by rw [wrap_small] <;> omega
      simp only [e7]
      refine ⟨⟨t + 1, by omega⟩, [], (by simp only; omega), Incl.same ?_ ?_ rfl ?_ rfl (Nat.zero_le _) rfl⟩
      · intro p hp
        simp only [List.mem_cons, List.not_mem_nil, or_false] at hp
        rcases hp with rfl | rfl | rfl | rfl | rfl <;> rfl
      · intro p hp
        simp only [List.mem_cons, List.not_mem_nil, or_false] at hp
        rcases hp with rfl | rfl | rfl <;> rfl
      · simp [okH_all, okR, bare_ok (mkW_bare _)]
    · have h : t = 16 := by simp at h; omega
      have hW : (sw1 b.data.toList 16).length = 64 := sw1_len _ _
      have hgoal : blkR K64 r b.data.toList = addR (itR K64 (sw2 (sw1 b.data.toList 16) 48) r 64) r := by unfold blkR; rw [sprR_eq]
      rw [hgoal, show sw1 b.data.toList 16 = sw1 b.data.toList t by rw [h]]
      rw [← h] at hW
      generalize sw1 b.data.toList t = W0 at hW
      conv => whnf
      refine loopR Tryz.hT Tryz.hM pu3_ok (α := {k : Nat // k ≤ 48})
        (fun k => ([(1, .str b), (2, .ptr 0 0), (4, .ptr 1 0), (5, .ptr 2 0), (7, .int .i64 ((16 + k.1 : Nat) : Int))], [(0, .box 373 (mkW r.l)), (1, .box 373 (mkW (List.replicate 8 0))), (2, .box 430 (mkW (sw2 W0 k.1)))]))
        (fun k => 48 - k.1) 3 ⟨0, Nat.zero_le _⟩ [] ?_ ?_
      · refine Incl.same ?_ ?_ rfl ?_ rfl (Nat.zero_le _) rfl
        · intro p hp
          simp only [List.mem_cons, List.not_mem_nil, or_false] at hp
          rcases hp with rfl | rfl | rfl | rfl | rfl <;> rfl
        · intro p hp
          simp only [List.mem_cons, List.not_mem_nil, or_false] at hp
          rcases hp with rfl | rfl | rfl <;> rfl
        · simp [okH_all, okR, bare_ok (mkW_bare _)]
      · rintro ⟨k, hk⟩
        conv => whnf
        refine bcase_intro (fun h => ?_) (fun h => ?_)
        · have h : k < 48 := by simp at h; omega
          conv => whnf
          have e1 : IntKind.i64.wrap (((16 + k : Nat) : Int) - 15) = ((16 + k - 15 : Nat) : Int) := by rw [wrap_small] <;> omega
          have e2 : IntKind.i64.wrap (((16 + k : Nat) : Int) - 2) = ((16 + k - 2 : Nat) : Int) := by rw [wrap_small] <;> omega
          have e3 : IntKind.i64.wrap (((16 + k : Nat) : Int) - 16) = ((16 + k - 16 : Nat) : Int) := by rw [wrap_small] <;> omega
          have e4 : IntKind.i64.wrap (((16 + k : Nat) : Int) - 7) = ((16 + k - 7 : Nat) : Int) := by rw [wrap_small] <;> omega
          have hl : (sw2 W0 k).length = 64 := sw2_len _ hW k
          simp only [e1, Int.toNat_natCast, Nat.zero_add, Nat.mul_one]
          refine ⟨by omega, ?_⟩
          conv => whnf
          rw [readA_mk (by omega)]
          conv => whnf
          simp only [e2, Int.toNat_natCast, Nat.zero_add, Nat.mul_one]
          refine ⟨by omega, ?_⟩
          conv => whnf
          rw [readA_mk (by omega)]
          conv => whnf
          simp only [e3, Int.toNat_natCast, Nat.zero_add, Nat.mul_one]
          refine ⟨by omega, ?_⟩
          conv => whnf
          rw [readA_mk (by omega)]
          conv => whnf
          simp only [e4, Int.toNat_natCast, Nat.zero_add, Nat.mul_one]
          refine ⟨by omega, ?_⟩
          conv => whnf
          rw [readA_mk (by omega)]
          conv => whnf
          simp only [i_turn, i_shr3, i_shr10, i_xor, i_add, Int.toNat_natCast, Nat.zero_add, Nat.mul_one, Nat.reduceLeDiff]
          refine ⟨by omega, ?_⟩
          conv => whnf
          have hlt : 16 + k < (sw2 W0 k).length := by omega
          simp only [cellsOf, spine_eq, Int.toNat_natCast, Nat.zero_add, Nat.mul_one, splice_mk hlt]
          rw [ble_mk hlt]
          conv => whnf
          have e7 : IntKind.i64.wrap (((16 + k : Nat) : Int) + 1) = ((16 + (k + 1) : Nat) : Int) := by rw [wrap_small] <;> omega
          simp only [e7]
          refine ⟨⟨k + 1, by omega⟩, [], (by simp only; omega), Incl.same ?_ ?_ rfl ?_ rfl (Nat.zero_le _) rfl⟩
          · intro p hp
            simp only [List.mem_cons, List.not_mem_nil, or_false] at hp
            rcases hp with rfl | rfl | rfl | rfl | rfl <;> rfl
          · intro p hp
            simp only [List.mem_cons, List.not_mem_nil, or_false] at hp
            rcases hp with rfl | rfl | rfl <;> rfl
          · simp [okH_all, okR, bare_ok (mkW_bare _)]
        · have h : k = 48 := by simp at h; omega
          have hl : (sw2 W0 48).length = 64 := sw2_len _ hW 48
          rw [show sw2 W0 48 = sw2 W0 k by rw [h]] at hl ⊢
          generalize sw2 W0 k = W at hl
          have hz2 : (List.replicate 64 (AV.int IntKind.u32 0)).length = (mkW K64).length := by rw [mkW_len, K64_len]; rfl
          conv => whnf
          simp only [cellsOf, mkW_leaf, mkW_len, K64_len, spine_eq, splice_whole hz2, List.length_replicate]
          conv => whnf
          dsimp only
          simp only [Nat.zero_add, Nat.reduceAdd]
          conv => whnf
          refine loopR Tryz.hT Tryz.hM pu3_ok (α := {t : Nat // t ≤ 64})
            (fun t => ([(2, .ptr 0 0), (4, .ptr 1 0), (5, .ptr 2 0), (10, .ptr 3 0), (11, .ptr 4 0), (12, .int .i64 (t.1 : Int))],
              [(0, .box 373 (mkW r.l)), (1, .box 373 (mkW (List.replicate 8 0))), (2, .box 430 (mkW W)), (3, .box 430 (mkW K64)), (4, .box 373 (mkW (itR K64 W r t.1).l))]))
            (fun t => 64 - t.1) 5 ⟨0, Nat.zero_le _⟩ [] ?_ ?_
          · refine Incl.same ?_ ?_ rfl ?_ rfl (Nat.zero_le _) rfl
            · intro p hp
              simp only [List.mem_cons, List.not_mem_nil, or_false] at hp
              rcases hp with rfl | rfl | rfl | rfl | rfl | rfl <;> rfl
            · intro p hp
              simp only [List.mem_cons, List.not_mem_nil, or_false] at hp
              rcases hp with rfl | rfl | rfl | rfl | rfl <;> rfl
            · simp [okH_all, okR, bare_ok (mkW_bare _)]
          · rintro ⟨t, ht⟩
            conv => whnf
            refine bcase_intro (fun h => ?_) (fun h => ?_)
            · have h : t < 64 := by simp at h; omega
              generalize hr : itR K64 W r t = q
              conv => whnf
              repeat (refine ⟨by decide, ?_⟩; conv => whnf)
              simp only [i_turn, i_not, i_xor, i_and, i_or, i_add, Int.toNat_natCast, Nat.zero_add, Nat.mul_one, Nat.reduceLeDiff]
              refine ⟨by omega, ?_⟩
              conv => whnf
              rw [readA_mk (by rw [K64_len]; exact h)]
              conv => whnf
              simp only [Int.toNat_natCast, Nat.zero_add, Nat.mul_one]
              refine ⟨by omega, ?_⟩
              conv => whnf
              rw [readA_mk (by rw [hl]; exact h)]
              conv => whnf
              repeat (refine ⟨by decide, ?_⟩; conv => whnf)
              have e7 : IntKind.i64.wrap ((t : Int) + 1) = ((t + 1 : Nat) : Int) := by rw [wrap_small] <;> omega
              have hn : itR K64 W r (t + 1) = rndR (K64.getD t 0) (W.getD t 0) q := by rw [itR, hr]
              simp only [e7, i_turn, i_not, i_xor, i_and, i_or, i_add, Nat.reduceLeDiff]
              refine ⟨⟨t + 1, by omega⟩, [], (by simp only; omega), Incl.same ?_ ?_ rfl ?_ rfl (Nat.zero_le _) rfl⟩
              · intro p hp
                simp only [List.mem_cons, List.not_mem_nil, or_false] at hp
                rcases hp with rfl | rfl | rfl | rfl | rfl | rfl <;> rfl
              · rw [hn]
                intro p hp
                simp only [List.mem_cons, List.not_mem_nil, or_false] at hp
                rcases hp with rfl | rfl | rfl | rfl | rfl <;> rfl
              · simp [okH_all, okR, bare_ok (mkW_bare _)]
            · have h : t = 64 := by simp at h; omega
              rw [show itR K64 W r 64 = itR K64 W r t by rw [h]]
              generalize itR K64 W r t = q
              conv => whnf
              refine unrollR Tryz.hT Tryz.hM pu3_ok 9 ?_
              conv => whnf
              repeat (refine ⟨by decide, ?_⟩; conv => whnf)
              simp only [i_add]
              exact .mk' [] rfl rfl rfl rfl (by rw [okA_agg]; exact bare_ok (mkW_bare _)) rfl trivial
end Go.Proofs.YtpcekfimhnojnaaGreatDoor
