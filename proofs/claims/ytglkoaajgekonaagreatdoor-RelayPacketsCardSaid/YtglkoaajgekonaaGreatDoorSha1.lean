import Derived.Test.YtglkoaajgekonaaGreatDoorTab
import Derived.Test.YtglkoaajgekonaaGreatDoorSXU
namespace Go.Proofs.YtglkoaajgekonaaGreatDoor
open Go.SX
theorem rl (x : Int) (m : Nat) (h1 : 1 ≤ m) (h2 : m ≤ 31) : Ctr Tryz.prog 167 [.int .u32 x, .int .i64 (-(m : Int))] [] [] 0 0 (.int .u32 (rotI x (32 - m))) [] := by
 refine Ctr.introR (T := Tryz.T) Tryz.hT Tryz.hM Tryz.hE Tryz.func167 rfl (by kernel_rfl) rfl rfl rfl rfl ?_
 have h := and31 m h1 h2
 conv => whnf
 simp only [h]
 refine ⟨Int.natCast_nonneg _, ?_⟩
 conv => whnf
 have hs : IntKind.u64.wrap (32 - ((32 - m : Nat) : Int)) = ((32 - (32 - m) : Nat) : Int) := by
  rw [show (32 : Int) - ((32 - m : Nat) : Int) = ((32 - (32 - m) : Nat) : Int) by omega, wrap_nat64 _ (by omega)]
 simp only [hs]
 refine ⟨Int.natCast_nonneg _, ?_⟩
 conv => whnf
 exact Fin.same rfl rfl (by simp)
theorem dn (x : Int) (m : Nat) (h1 : 1 ≤ m) (h2 : m ≤ 31) : Ctr Tryz.prog 158 [.int .u32 x, .int .i64 (m : Int)] [] [] 0 0 (.int .u32 (rotI x (32 - m))) [] := by
 refine Ctr.introR (T := Tryz.T) Tryz.hT Tryz.hM Tryz.hE Tryz.func158 rfl (by kernel_rfl) rfl rfl rfl rfl ?_
 conv => whnf
 have hw : IntKind.i64.wrap (-(m : Int)) = -(m : Int) := wrap_small (by omega) (by omega)
 simp only [hw]
 refine callR [] (rl x m h1 h2) rfl rfl rfl rfl trivial trivial ?_
 conv => whnf
 exact Fin.same rfl rfl (by simp)
theorem down_ok : PureOK Tryz.prog (downP 158 .i64) := by
 intro g vs v h
 unfold downP at h
 split at h
 ·rename_i x k m hg
  have hg := Nat.eq_of_beq_eq_true hg
  subst hg
  split at h
  ·rename_i hk hs
   cases h
   obtain ⟨h1, h2, rfl⟩ := rotS_ok hs
   have hk : k = .i64 := by cases k <;> first | rfl | (cases hk)
   subst hk
   exact .inl fun n => (dn x m h1 h2).anyN (by simp [bareA]) rfl n
  ·cases h
 ·cases h
noncomputable def pu1 : Pure := orP (downP 158 .i64) (extPure Tryz.exts)
theorem pu1_ok : PureOK Tryz.prog pu1 := orP_ok down_ok Tryz.hE
theorem spr (b : ByteArray) : Ctr Tryz.prog 156 [.str b] [] [] 0 0 (.agg (mkW (sprP b.data.toList))) [] := by
 refine Ctr.introR (T := Tryz.T) Tryz.hT Tryz.hM pu1_ok Tryz.func156 rfl (by kernel_rfl) rfl rfl rfl rfl ?_
 conv => whnf
 refine loopR Tryz.hT Tryz.hM pu1_ok (α := {i : Nat // i ≤ min 64 b.size})
  (fun i => ([(0, .str b), (2, .ptr 0 0), (3, .ptr 1 0), (12, .int .i64 (min 64 (b.size : Int))), (13, .int .i64 (i.1 : Int))], [(0, .box 216 (mkW (List.replicate 64 0))), (1, .box 216 (mkW (st1 b.data.toList i.1)))]))
  (fun i => 64 - i.1) 2 ⟨0, Nat.zero_le _⟩ [] ?_ ?_
 ·refine Incl.same ?_ ?_ rfl ?_ rfl (Nat.zero_le _) rfl
  ·intro p hp
   simp only [List.mem_cons, List.not_mem_nil, or_false] at hp
   rcases hp with rfl | rfl | rfl | rfl | rfl <;> rfl
  ·intro p hp
   simp only [List.mem_cons, List.not_mem_nil, or_false] at hp
   rcases hp with rfl | rfl <;> rfl
  ·simp [okH_all, okR, bare_ok (mkW_bare _)]
 ·rintro ⟨i, hi⟩
  conv => whnf
  have hsz : b.data.toList.length = b.size := rfl
  refine bcase_intro (fun h => ?_) (fun h => ?_)
  ·have h : i < min 64 b.size := by simp at h; omega
   conv => whnf
   have e1 : IntKind.i64.wrap ((i : Int).tdiv 4) = ((i / 4 : Nat) : Int) := by
    rw [show (i : Int).tdiv 4 = ((i / 4 : Nat) : Int) from rfl, wrap_small] <;> omega
   have e2 : (i : Int).tmod 4 = ((i % 4 : Nat) : Int) := rfl
   have e3 : IntKind.i64.wrap (8 * ((i % 4 : Nat) : Int)) = ((8 * (i % 4) : Nat) : Int) := by
    rw [wrap_small] <;> omega
   have e4 : IntKind.i64.wrap (24 - ((8 * (i % 4) : Nat) : Int)) = ((24 - 8 * (i % 4) : Nat) : Int) := by
    rw [wrap_small] <;> omega
   have e5 : byteAt b (i : Int) = ((byteD b.data.toList i : Nat) : Int) := by
    have hlt : i < b.size := by omega
    unfold byteAt byteD
    rw [Int.toNat_natCast, getElem?_pos b i hlt, List.getD_eq_getElem?_getD, List.getElem?_eq_getElem (by simpa using hlt)]; rfl
   have e6 : IntKind.u32.wrap ((byteD b.data.toList i : Nat) : Int) = ((byteD b.data.toList i : Nat) : Int) := wrap_nat32 _ (by unfold byteD; have := UInt8.toNat_lt (b.data.toList.getD i 0); omega)
   simp only [e1, Int.toNat_natCast, Nat.zero_add, Nat.mul_one]
   refine ⟨by omega, ?_⟩
   conv => whnf
   rw [readA_mk (by rw [st1_len]; omega)]
   conv => whnf
   refine ⟨by omega, ?_⟩
   conv => whnf
   simp only [e2, e3, e4, e5, e6]
   refine ⟨Int.natCast_nonneg _, ?_⟩
   conv => whnf
   simp only [i_shl _ _ (show 24 - 8 * (i % 4) ≤ 32 by omega), i_or, Int.toNat_natCast, Nat.zero_add, Nat.mul_one]
   refine ⟨by omega, ?_⟩
   conv => whnf
   have hlt : i / 4 < (st1 b.data.toList i).length := by rw [st1_len]; omega
   simp only [cellsOf, spine_eq, splice_mk hlt]
   rw [ble_mk hlt]
   conv => whnf
   have e7 : IntKind.i64.wrap ((i : Int) + 1) = ((i + 1 : Nat) : Int) := by rw [wrap_small] <;> omega
   simp only [e7]
   refine ⟨⟨i + 1, by omega⟩, [], (by simp only; omega), Incl.same ?_ ?_ rfl ?_ rfl (Nat.zero_le _) rfl⟩
   ·intro p hp
    simp only [List.mem_cons, List.not_mem_nil, or_false] at hp
    rcases hp with rfl | rfl | rfl | rfl | rfl <;> rfl
   ·intro p hp
    simp only [List.mem_cons, List.not_mem_nil, or_false] at hp
    rcases hp with rfl | rfl <;> rfl
   ·simp [okH_all, okR, bare_ok (mkW_bare _)]
  ·have h : i = min 64 b.size := by simp at h; omega
   subst h
   conv => whnf
   have hW : (st1 b.data.toList (min 64 b.size)).length = 64 := st1_len _ _
   have hfin : sprP b.data.toList = st2 (st1 b.data.toList (min 64 b.size)) 48 := sprP_eq _
   rw [hfin]
   generalize st1 b.data.toList (min 64 b.size) = W0 at hW
   refine loopR Tryz.hT Tryz.hM pu1_ok (α := {k : Nat // k ≤ 48})
    (fun k => ([(2, .ptr 0 0), (3, .ptr 1 0), (5, .int .i64 ((16 + k.1 : Nat) : Int))], [(0, .box 216 (mkW (List.replicate 64 0))), (1, .box 216 (mkW (st2 W0 k.1)))]))
    (fun k => 48 - k.1) 2 ⟨0, Nat.zero_le _⟩ [] ?_ ?_
   ·refine Incl.same ?_ ?_ rfl ?_ rfl (Nat.zero_le _) rfl
    ·intro p hp
     simp only [List.mem_cons, List.not_mem_nil, or_false] at hp
     rcases hp with rfl | rfl | rfl <;> rfl
    ·intro p hp
     simp only [List.mem_cons, List.not_mem_nil, or_false] at hp
     rcases hp with rfl | rfl <;> rfl
    ·simp [okH_all, okR, bare_ok (mkW_bare _)]
   ·rintro ⟨k, hk⟩
    conv => whnf
    refine bcase_intro (fun h => ?_) (fun h => ?_)
    ·have h : k < 48 := by simp at h; omega
     conv => whnf
     have e1 : IntKind.i64.wrap (((16 + k : Nat) : Int) - 15) = ((16 + k - 15 : Nat) : Int) := by rw [wrap_small] <;> omega
     have e2 : IntKind.i64.wrap (((16 + k : Nat) : Int) - 2) = ((16 + k - 2 : Nat) : Int) := by rw [wrap_small] <;> omega
     have e3 : IntKind.i64.wrap (((16 + k : Nat) : Int) - 16) = ((16 + k - 16 : Nat) : Int) := by rw [wrap_small] <;> omega
     have e4 : IntKind.i64.wrap (((16 + k : Nat) : Int) - 7) = ((16 + k - 7 : Nat) : Int) := by rw [wrap_small] <;> omega
     have hl : (st2 W0 k).length = 64 := st2_len _ hW k
     simp only [e1, Int.toNat_natCast, Nat.zero_add, Nat.mul_one]
     refine ⟨by omega, ?_⟩
     conv => whnf
     rw [readA_mk (by omega)]
     conv => whnf
     simp only [e2, Int.toNat_natCast, Nat.zero_add, Nat.mul_one]
     refine ⟨by omega, ?_⟩
     conv => whnf
     rw [readA_mk (by omega)]
     conv => whnf
     simp only [e3, e4, Int.toNat_natCast, Nat.zero_add, Nat.mul_one, i_rot', i_shr3, i_shr10, i_xor, i_add]
     refine ⟨by omega, ?_⟩
     conv => whnf
     rw [readA_mk (by omega)]
     conv => whnf
     simp only [e4, Int.toNat_natCast, Nat.zero_add, Nat.mul_one]
     refine ⟨by omega, ?_⟩
     conv => whnf
     rw [readA_mk (by omega)]
     conv => whnf
     simp only [i_add, Int.toNat_natCast, Nat.zero_add, Nat.mul_one]
     refine ⟨by omega, ?_⟩
     conv => whnf
     have hlt : 16 + k < (st2 W0 k).length := by omega
     simp only [cellsOf, spine_eq, splice_mk hlt]
     rw [ble_mk hlt]
     conv => whnf
     have e7 : IntKind.i64.wrap (((16 + k : Nat) : Int) + 1) = ((16 + (k + 1) : Nat) : Int) := by rw [wrap_small] <;> omega
     simp only [e7]
     refine ⟨⟨k + 1, by omega⟩, [], (by simp only; omega), Incl.same ?_ ?_ rfl ?_ rfl (Nat.zero_le _) rfl⟩
     ·intro p hp
      simp only [List.mem_cons, List.not_mem_nil, or_false] at hp
      rcases hp with rfl | rfl | rfl <;> rfl
     ·intro p hp
      simp only [List.mem_cons, List.not_mem_nil, or_false] at hp
      rcases hp with rfl | rfl <;> rfl
     ·simp [okH_all, okR, bare_ok (mkW_bare _)]
    ·have h : k = 48 := by simp at h; omega
     have hl : (st2 W0 k).length = 64 := st2_len _ hW k
     conv => whnf
     simp only [readA_all hl, putM0]
     conv => whnf
     simp only [cellsOf, mkW_leaf, mkW_len, hl, spine_eq, splice_whole (show (mkW (List.replicate 64 0)).length = (mkW (st2 W0 k)).length by rw [mkW_len, mkW_len, hl]; rfl), List.length_replicate]
     conv => whnf
     rw [show Tryz.f156.results.toList = [.cell 2 216] from rfl, resL_cell (r := ⟨true, 64, List.replicate 64 (.int .u32 0), .arr 64 204⟩) rfl rfl rfl (readA_all hl)]
     conv => whnf
     subst h
     exact Fin.same rfl (by rw [okA_agg]; exact bare_ok (mkW_bare _)) (by simp)
def K64 : List Nat := [1116352408, 1899447441, 3049323471, 3921009573, 961987163, 1508970993, 2453635748, 2870763221, 3624381080, 310598401, 607225278, 1426881987, 1925078388, 2162078206, 2614888103, 3248222580, 3835390401, 4022224774, 264347078, 604807628, 770255983, 1249150122, 1555081692, 1996064986, 2554220882, 2821834349, 2952996808, 3210313671, 3336571891, 3584528711, 113926993, 338241895, 666307205, 773529912, 1294757372, 1396182291, 1695183700, 1986661051, 2177026350, 2456956037, 2730485921, 2820302411, 3259730800, 3345764771, 3516065817, 3600352804, 4094571909, 275423344, 430227734, 506948616, 659060556, 883997877, 958139571, 1322822218, 1537002063, 1747873779, 1955562222, 2024104815, 2227730452, 2361852424, 2428436474, 2756734187, 3204031479, 3329325298]
attribute [irreducible] K64
theorem K64_len : K64.length = 64 := by unfold K64; rfl
set_option maxRecDepth 20000 in
theorem consts : Ctr Tryz.prog 157 [] [] [] 0 0 (.agg (mkW K64)) [] := by
 refine Ctr.introR (T := Tryz.T) Tryz.hT Tryz.hM Tryz.hE Tryz.func157 rfl (by kernel_rfl) rfl rfl rfl rfl ?_
 conv => whnf
 exact .mk' [] rfl rfl rfl rfl (by rw [okA_agg]; exact bare_ok (mkW_bare _)) (by kernel_rfl) trivial
noncomputable def puW : Pure := fun g vs => match Nat.beq g 156, vs with
 | true, [.str b] => some (.agg (mkW (sprP b.data.toList)))
 | _, _ => match Nat.beq g 157, vs with
  | true, [] => some (.agg (mkW K64))
  | _, _ => none
theorem puW_ok : PureOK Tryz.prog puW := by
 intro g vs v h
 unfold puW at h
 split at h
 ·rename_i b hg
  have hg := Nat.eq_of_beq_eq_true hg
  subst hg
  cases h
  exact .inl fun n => (spr b).anyN (by simp [bareA]) (by rw [okA_agg]; exact bare_ok (mkW_bare _)) n
 ·split at h
  ·rename_i hg _
   have hg := Nat.eq_of_beq_eq_true hg
   subst hg
   cases h
   exact .inl fun n => consts.anyN rfl (by rw [okA_agg]; exact bare_ok (mkW_bare _)) n
  ·cases h
noncomputable def pu2 : Pure := orP puW pu1
theorem pu2_ok : PureOK Tryz.prog pu2 := orP_ok puW_ok pu1_ok
theorem blk (r : R8) (b : ByteArray) : Ctr Tryz.prog 142 [.agg (mkW r.l), .str b] [] [] 0 0 (.agg (mkW (blkP K64 r b.data.toList).l)) [] := by
 refine Ctr.introR (T := Tryz.T) Tryz.hT Tryz.hM pu2_ok Tryz.func142 rfl (by kernel_rfl) rfl (by simp [okL_cons, okL_nil, okA_agg, okA_str, bare_ok (mkW_bare _)]) rfl rfl ?_
 conv => whnf
 have hW : (sprP b.data.toList).length = 64 := sprP_len _
 have hgoal : blkP K64 r b.data.toList = addR r (itP K64 (sprP b.data.toList) r 64) := rfl
 rw [hgoal]
 generalize sprP b.data.toList = W at hW
 have hz : (List.replicate 64 (AV.int IntKind.u32 0)).length = (mkW W).length := by rw [mkW_len, hW]; rfl
 have hz2 : (List.replicate 64 (AV.int IntKind.u32 0)).length = (mkW K64).length := by rw [mkW_len, K64_len]; rfl
 simp only [cellsOf, mkW_leaf, mkW_len, hW, spine_eq, splice_whole hz, List.length_replicate]
 conv => whnf
 simp only [cellsOf, mkW_leaf, mkW_len, K64_len, spine_eq, splice_whole hz2, List.length_replicate]
 conv => whnf
 dsimp only
 simp only [Nat.zero_add, Nat.reduceAdd]
 conv => whnf
 refine loopR Tryz.hT Tryz.hM pu2_ok (α := {t : Nat // t ≤ 64})
  (fun t => ([(4, .ptr 1 0), (5, .ptr 2 0), (6, .ptr 3 0), (7, .ptr 4 0), (8, .ptr 5 0), (20, .int .i64 (t.1 : Int))],
   [(1, .box 205 (mkW (List.replicate 8 0))), (2, .box 216 (mkW W)), (3, .box 216 (mkW K64)), (4, .box 205 (mkW r.l)), (5, .box 205 (mkW (itP K64 W r t.1).l))]))
  (fun t => 64 - t.1) 6 ⟨0, Nat.zero_le _⟩ [] ?_ ?_
 ·refine Incl.same ?_ ?_ rfl ?_ rfl (Nat.zero_le _) rfl
  ·intro p hp
   simp only [List.mem_cons, List.not_mem_nil, or_false] at hp
   rcases hp with rfl | rfl | rfl | rfl | rfl | rfl <;> rfl
  ·intro p hp
   simp only [List.mem_cons, List.not_mem_nil, or_false] at hp
   rcases hp with rfl | rfl | rfl | rfl | rfl <;> rfl
  ·simp [okH_all, okR, bare_ok (mkW_bare _)]
 ·rintro ⟨t, ht⟩
  conv => whnf
  refine bcase_intro (fun h => ?_) (fun h => ?_)
  ·have h : t < 64 := by simp at h; omega
   generalize hr : itP K64 W r t = q
   conv => whnf
   repeat (refine ⟨by decide, ?_⟩; conv => whnf)
   simp only [i_rot', i_xor, i_and, i_or, i_add, Int.toNat_natCast, Nat.zero_add, Nat.mul_one]
   refine ⟨by omega, ?_⟩
   conv => whnf
   rw [readA_mk (by rw [K64_len]; exact h)]
   conv => whnf
   simp only [Int.toNat_natCast, Nat.zero_add, Nat.mul_one]
   refine ⟨by omega, ?_⟩
   conv => whnf
   rw [readA_mk (by rw [hW]; exact h)]
   conv => whnf
   repeat (refine ⟨by decide, ?_⟩; conv => whnf)
   have e7 : IntKind.i64.wrap ((t : Int) + 1) = ((t + 1 : Nat) : Int) := by rw [wrap_small] <;> omega
   have hn : itP K64 W r (t + 1) = rndP (K64.getD t 0) (W.getD t 0) q := by rw [itP, hr]
   simp only [e7, i_rot', i_xor, i_and, i_or, i_add]
   refine ⟨⟨t + 1, by omega⟩, [], (by simp only; omega), Incl.same ?_ ?_ rfl ?_ rfl (Nat.zero_le _) rfl⟩
   ·intro p hp
    simp only [List.mem_cons, List.not_mem_nil, or_false] at hp
    rcases hp with rfl | rfl | rfl | rfl | rfl | rfl <;> rfl
   ·rw [hn]
    intro p hp
    simp only [List.mem_cons, List.not_mem_nil, or_false] at hp
    rcases hp with rfl | rfl | rfl | rfl | rfl <;> rfl
   ·simp [okH_all, okR, bare_ok (mkW_bare _)]
  ·have h : t = 64 := by simp at h; omega
   rw [show itP K64 W r 64 = itP K64 W r t by rw [h]]
   generalize itP K64 W r t = q
   conv => whnf
   refine unrollR Tryz.hT Tryz.hM pu2_ok 9 ?_
   conv => whnf
   repeat (refine ⟨by decide, ?_⟩; conv => whnf)
   simp only [i_add]
   exact .mk' [] rfl rfl rfl rfl (by rw [okA_agg]; exact bare_ok (mkW_bare _)) rfl trivial
end Go.Proofs.YtglkoaajgekonaaGreatDoor
-- SQUEEZED
