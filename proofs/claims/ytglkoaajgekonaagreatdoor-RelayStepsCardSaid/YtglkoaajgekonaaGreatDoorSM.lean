/- The sum of bytes: the program's. -/
import Derived.Test.YtglkoaajgekonaaGreatDoorSha1
import Derived.Test.YtglkoaajgekonaaGreatDoorNum
import Derived.Test.YtglkoaajgekonaaGreatDoorSXSH
import Derived.Test.YtglkoaajgekonaaGreatDoorSXZ
import Derived.Test.YtglkoaajgekonaaGreatDoorSXRF
namespace Go.Proofs.YtglkoaajgekonaaGreatDoor
open Go.SX
def byA (l : List UInt8) : List AV := l.map fun b => .int .u8 (b.toNat : Int)
theorem byA_bare (l : List UInt8) : (byA l).all bareA = true := by simp [byA, bareA]
theorem byA_len (l : List UInt8) : (byA l).length = l.length := by simp [byA]
theorem subB_to (s : ByteArray) (a : Nat) : subB s a s.size = ⟨⟨s.data.toList.drop a⟩⟩ := by
  have : (s.data.toList.drop a).take (s.size - a) = s.data.toList.drop a := List.take_of_length_le (by rw [List.length_drop]; exact Nat.le_refl _)
  unfold subB; rw [this]
theorem shaRegs : Ctr Tryz.prog 141 [] [] [] 0 0 (.agg (mkW firstR.l)) [] := Ctr.shut (m := 0) (k := 1) (Tryz.ev_ok 80 (show Tryz.ev 80 141 [] [] [] 0 = .ok (.agg (mkW firstR.l), [], 1) by kernel_rfl)) rfl rfl
theorem repA_byte (k : Nat) : repA k 1 [AV.int IntKind.u8 0] = byA (List.replicate k 0) := by
  simp only [repA, byA, List.map_replicate, Nat.mul_one]
  apply List.ext_getElem (by simp)
  intro i h1 h2
  simp only [List.getElem_map, Nat.mod_one, List.getElem_replicate]
  rfl
theorem splice_by {l : List UInt8} {i : Nat} {b : UInt8} (h : i < l.length) : splice (byA l) i [.int .u8 (b.toNat : Int)] = byA (l.set i b) := by
  rw [splice_def]
  apply List.ext_getElem?
  intro j
  have hl : (byA l).length = l.length := byA_len l
  simp only [byA, List.getElem?_map, List.getElem?_set, List.length_cons, List.length_nil]
  rcases Nat.lt_trichotomy j i with h1 | h1 | h1
  · rw [List.getElem?_append_left (by simp; omega), List.getElem?_take, if_pos h1, List.getElem?_map, if_neg (by omega)]
  · subst h1
    rw [List.getElem?_append_right (by simp [Nat.min_le_left]), List.getElem?_append_left (by simp; rw [Nat.min_eq_left (Nat.le_of_lt h)]; omega), if_pos rfl, if_pos h]
    have : j - min j l.length = 0 := by rw [Nat.min_eq_left (by omega)]; omega
    simp [this]
  · rw [List.getElem?_append_right (by simp; omega), List.getElem?_append_right (by simp; omega), List.getElem?_drop, List.getElem?_map, if_neg (by omega)]
    congr 2; simp; omega
/-- What stands behind so many bytes, behind the i-th round. -/
def padI (n z i : Nat) : List UInt8 := 128 :: (List.replicate z 0 ++ (List.replicate (8 - i) 0 ++ (lenB n).drop (8 - i)))
theorem lenB_len (n : Nat) : (lenB n).length = 8 := by simp [lenB]
theorem padI_len {n z i : Nat} (h : i ≤ 8) : (padI n z i).length = 1 + z + 8 := by simp [padI, lenB_len]; omega
theorem padI_zero (n z : Nat) : padI n z 0 = 128 :: (List.replicate z 0 ++ List.replicate 8 0) := by
  have : (lenB n).drop 8 = [] := List.drop_of_length_le (by rw [lenB_len]; exact Nat.le_refl _)
  simp [padI, this]
theorem padI_eight (n z : Nat) : padI n z 8 = 128 :: (List.replicate z 0 ++ lenB n) := by simp [padI]
theorem padI_succ {n z i : Nat} (h : i < 8) : (padI n z i).set (1 + z + 7 - i) (UInt8.ofNat (n * 8 / 256 ^ i % 256)) = padI n z (i + 1) := by
  have e1 : 8 - i = (7 - i) + 1 := by omega
  have e2 : (lenB n).drop (7 - i) = UInt8.ofNat (n * 8 / 256 ^ i % 256) :: (lenB n).drop (8 - i) := by
    rw [List.drop_eq_getElem_cons (by rw [lenB_len]; omega), e1]
    congr 1
    simp [lenB, show 7 - (7 - i) = i by omega]
  unfold padI
  rw [show 8 - (i + 1) = 7 - i by omega, e2, show 1 + z + 7 - i = (z + (7 - i)) + 1 by omega, List.set_cons_succ, List.set_append_right _ _ (by simp), e1, List.replicate_succ', List.append_assoc]
  rw [List.length_replicate, show z + (7 - i) - z = 7 - i by omega, List.set_append_right _ _ (by simp)]
  simp
theorem ble_by {l : List UInt8} {i : Nat} (h : i < l.length) : Nat.ble (i + 1) (byA l).length = true := Nat.ble_eq_true_of_le (by rw [byA_len]; omega)
theorem padv {n i : Nat} (hn : n < 1152921504606846976) (hi : i < 8) : IntKind.u8.wrap (shrI .u64 (shlI .u64 (IntKind.u64.wrap (n : Int)) 3) ((8 * i : Nat) : Int)) = ((UInt8.ofNat (n * 8 / 256 ^ i % 256)).toNat : Int) := by
  rw [wrap_nat64 n (by omega)]
  have e1 : shlI .u64 (n : Int) 3 = ((n * 8 : Nat) : Int) := by
    show IntKind.u64.wrap ((n : Int) * 2 ^ 3) = _
    rw [show (n : Int) * 2 ^ 3 = ((n * 8 : Nat) : Int) by omega, wrap_nat64 _ (by omega)]
  rw [e1]
  have e2 : shrI .u64 ((n * 8 : Nat) : Int) ((8 * i : Nat) : Int) = ((n * 8 / 256 ^ i : Nat) : Int) := by
    unfold shrI
    rw [Int.toNat_natCast, show min (8 * i) IntKind.u64.bits = 8 * i from Nat.min_eq_left (by show 8 * i ≤ 64; omega)]
    rw [show (2 : Int) ^ (8 * i) = ((256 ^ i : Nat) : Int) by rw [Int.pow_mul]; norm_cast]
    exact (Int.ofNat_fdiv _ _).symm
  rw [e2, u8_wrap]
theorem intsL_by (l : List UInt8) : intsL (byA l) l.length = some (l.map fun b => (b.toNat : Int)) := intsL_mkB l
theorem padP (n : Nat) (hn : n < 1152921504606846976) : Ctr Tryz.prog 143 [.int .i64 (n : Int)] [] [] 0 0 (.str ⟨⟨padL n⟩⟩) [] := by
  refine Ctr.introR (T := Tryz.T) Tryz.hT Tryz.hM Tryz.hE Tryz.func143 rfl (by kernel_rfl) rfl rfl rfl rfl ?_
  conv => whnf
  rw [show decide ((n : Int) < 0) = false by simp]
  conv => whnf
  have e1 : (n : Int).tmod 64 = ((n % 64 : Nat) : Int) := by rw [Int.tmod_eq_emod_of_nonneg (by omega)]; omega
  have e2 : IntKind.i64.wrap (119 - ((n % 64 : Nat) : Int)) = ((119 - n % 64 : Nat) : Int) := by rw [wrap_small] <;> omega
  have e3 : ((119 - n % 64 : Nat) : Int).tmod 64 = (((119 - n % 64) % 64 : Nat) : Int) := by rw [Int.tmod_eq_emod_of_nonneg (by omega)]; omega
  have e4 : IntKind.i64.wrap (1 + (((119 - n % 64) % 64 : Nat) : Int)) = ((1 + (119 - n % 64) % 64 : Nat) : Int) := by rw [wrap_small] <;> omega
  have e5 : IntKind.i64.wrap (((1 + (119 - n % 64) % 64 : Nat) : Int) + 8) = ((1 + (119 - n % 64) % 64 + 8 : Nat) : Int) := by rw [wrap_small] <;> omega
  simp only [e1, e2, e3, e4, e5, Int.toNat_natCast]
  generalize hz : (119 - n % 64) % 64 = z at *
  have hz64 : z < 64 := by omega
  refine ⟨by omega, ?_⟩
  rw [spine_eq, repA_byte]
  have hZl : (List.replicate (1 + z + 8) (0 : UInt8)).length = 1 + z + 8 := by simp
  generalize hZ : List.replicate (1 + z + 8) (0 : UInt8) = Z at hZl ⊢
  generalize hm : 1 + z + 8 = m at *
  conv => whnf
  refine ⟨by omega, ?_⟩
  conv => whnf
  rw [show Nat.ble ((0 + Int.toNat 0) * 1 + 0 + 1) (byA Z).length = true from ble_by (i := 0) (by omega)]
  conv => whnf
  rw [show splice (byA Z) ((0 + Int.toNat 0) * 1 + 0) (cellsOf (ofV (Value.int IntKind.u8 128))) = byA (Z.set 0 128) from splice_by (i := 0) (b := 128) (by omega)]
  rw [spine_rec]
  conv => whnf
  have hY : Z.set 0 128 = padI n z 0 := by
    rw [← hZ, ← hm, padI_zero]
    rw [show 1 + z + 8 = (z + 8) + 1 by omega, List.replicate_succ, ← List.replicate_append_replicate]; rfl
  refine loopR Tryz.hT Tryz.hM Tryz.hE (α := {i : Nat // i ≤ 8})
    (fun i => ([(0, .int .i64 (n : Int)), (4, .sv 0 1 0 m (some m)), (18, .int .i64 (i.1 : Int))], [(0, .row 5 1 (byA (padI n z i.1)) (some m))]))
    (fun i => 8 - i.1) 1 ⟨0, by omega⟩ [] ?_ ?_
  · refine Incl.same ?_ ?_ rfl ?_ rfl (Nat.zero_le _) rfl
    · intro p hp
      simp only [List.mem_cons, List.not_mem_nil, or_false] at hp
      rcases hp with rfl | rfl | rfl <;> rfl
    · intro p hp
      simp only [List.mem_cons, List.not_mem_nil, or_false, ← hY] at hp
      rcases hp with rfl <;> rfl
    · simp [okH_all, okR, bare_ok (byA_bare _)]
  rintro ⟨i, hi⟩
  conv => whnf
  refine bcase_intro (fun h => ?_) (fun h => ?_)
  · have h : i < 8 := by simp at h; omega
    conv => whnf
    have f1 : IntKind.i64.wrap (8 * (i : Int)) = ((8 * i : Nat) : Int) := by rw [wrap_small] <;> omega
    refine ⟨by rw [f1]; omega, ?_⟩
    rw [f1]
    conv => whnf
    have f2 : IntKind.i64.wrap (IntKind.i64.wrap ((m : Int) - 1) - (i : Int)) = ((m - 1 - i : Nat) : Int) := by
      rw [show IntKind.i64.wrap ((m : Int) - 1) = ((m - 1 : Nat) : Int) by rw [wrap_small] <;> omega]
      rw [wrap_small] <;> omega
    dsimp only
    rw [padv hn h, f2, Int.toNat_natCast]
    refine ⟨by omega, ?_⟩
    conv => whnf
    have hpl : (padI n z i).length = m := by rw [padI_len (by omega), hm]
    rw [show Nat.ble ((0 + (m - 1 - i)) * 1 + 0 + 1) (byA (padI n z i)).length = true from by
      have := ble_by (l := padI n z i) (i := m - 1 - i) (by omega)
      simpa using this]
    conv => whnf
    rw [show splice (byA (padI n z i)) ((0 + (m - 1 - i)) * 1 + 0) (cellsOf (AV.int IntKind.u8 ((UInt8.ofNat (n * 8 / 256 ^ i % 256)).toNat : Int))) = byA (padI n z (i + 1)) from by
      have := splice_by (l := padI n z i) (i := m - 1 - i) (b := UInt8.ofNat (n * 8 / 256 ^ i % 256)) (by omega)
      rw [show (0 + (m - 1 - i)) * 1 + 0 = m - 1 - i by omega]
      rw [show cellsOf (AV.int IntKind.u8 ((UInt8.ofNat (n * 8 / 256 ^ i % 256)).toNat : Int)) = [AV.int IntKind.u8 ((UInt8.ofNat (n * 8 / 256 ^ i % 256)).toNat : Int)] from rfl]
      rw [this, show m - 1 - i = 1 + z + 7 - i by omega, padI_succ h]]
    rw [spine_rec]
    conv => whnf
    have f3 : IntKind.i64.wrap ((i : Int) + 1) = ((i + 1 : Nat) : Int) := by rw [wrap_small] <;> omega
    rw [f3]
    refine ⟨⟨i + 1, h⟩, [], by dsimp only; omega, ?_⟩
    refine Incl.same ?_ ?_ rfl ?_ rfl (Nat.zero_le _) rfl
    · intro p hp
      simp only [List.mem_cons, List.not_mem_nil, or_false] at hp
      rcases hp with rfl | rfl | rfl <;> rfl
    · intro p hp
      simp only [List.mem_cons, List.not_mem_nil, or_false] at hp
      rcases hp with rfl <;> rfl
    · simp [okH_all, okR, bare_ok (byA_bare _)]
  · have h : i = 8 := by simp at h; omega
    subst h
    conv => whnf
    have hpl : (padI n z 8).length = m := by rw [padI_len (by omega), hm]
    dsimp only
    rw [List.drop_zero, show intsL (byA (padI n z 8)) m = some ((padI n z 8).map fun b => (b.toNat : Int)) by rw [← hpl]; exact intsL_by _, show (0 + m).ble (byA (padI n z 8)).length = true from Nat.ble_eq_true_of_le (by rw [byA_len]; omega)]
    conv => whnf
    rw [sn_map, padI_eight, ← hz]
    exact Fin.same (by simp [okH_all, okR, bare_ok (byA_bare _)]) rfl (by simp)
theorem finS {n n' : Nat} {r : AV} {t : ByteArray} {H : Heap} (h : r = .str t) : Fin n n' (.str t) [] r H := by subst h; exact Fin.same rfl rfl (by simp)
def b4I (x : Nat) : List Int := [IntKind.u8.wrap (shrI IntKind.u32 (x : Int) 24), IntKind.u8.wrap (shrI IntKind.u32 (x : Int) 16), IntKind.u8.wrap (shrI IntKind.u32 (x : Int) 8), IntKind.u8.wrap (x : Int)]
theorem b4I_eq (x : Nat) : b4I x = (b4 x).map fun b => (b.toNat : Int) := by
  have e : ∀ k : Nat, k ≤ 32 → shrI .u32 (x : Int) (k : Int) = ((x / 2 ^ k : Nat) : Int) := fun k hk => by
    unfold shrI
    rw [Int.toNat_natCast, show min k IntKind.u32.bits = k from Nat.min_eq_left hk, show (2 : Int) ^ k = ((2 ^ k : Nat) : Int) by norm_cast]
    exact (Int.ofNat_fdiv _ _).symm
  have e1 := e 24 (by decide); have e2 := e 16 (by decide); have e3 := e 8 (by decide)
  unfold b4I b4
  rw [show (24 : Int) = ((24 : Nat) : Int) from rfl, show (16 : Int) = ((16 : Nat) : Int) from rfl, show (8 : Int) = ((8 : Nat) : Int) from rfl, e1, e2, e3, u8_wrap, u8_wrap, u8_wrap, u8_wrap]
  rfl
theorem outR_ints (q : R8) : (ByteArray.mk ⟨outR q⟩) = strOfNums (b4I q.a ++ b4I q.b ++ b4I q.c ++ b4I q.d ++ b4I q.e ++ b4I q.f ++ b4I q.g ++ b4I q.h) := by
  simp only [b4I_eq, ← List.map_append]
  rw [sn_map]
  rfl
theorem runB_snoc (K : List Nat) (i : Nat) (r : R8) (l : List UInt8) : runB K (i + 1) r l = blkP K (runB K i r l) (l.drop (64 * i)) := by rw [runB_add K i 1]; rfl
theorem subB_drop (s : ByteArray) (a : Nat) : (subB s a s.size).data.toList = s.data.toList.drop a := by rw [subB_to]
theorem sumP (s : ByteArray) (hs : s.size < 1152921504606846976) : Ctr Tryz.prog 125 [.str s] [] [] 0 0 (.str (sumB K64 s)) [] := by
  refine Ctr.introR (T := Tryz.T) Tryz.hT Tryz.hM Tryz.hE Tryz.func125 rfl (by kernel_rfl) rfl rfl rfl rfl ?_
  conv => whnf
  refine callR [] shaRegs rfl rfl rfl rfl trivial trivial ?_
  conv => whnf
  have w1 : IntKind.i64.wrap ((s.size : Int) - ((s.size : Int).tmod 64)) = ((64 * (s.size / 64) : Nat) : Int) := by
    rw [Int.tmod_eq_emod_of_nonneg (by omega), wrap_small] <;> omega
  rw [w1]
  conv => whnf
  refine loopR Tryz.hT Tryz.hM Tryz.hE (α := {i : Nat // i ≤ s.size / 64})
    (fun i => ([(0, .str s), (3, .ptr 0 0), (4, .int .i64 ((64 * (s.size / 64) : Nat) : Int)), (5, .int .i64 ((64 * i.1 : Nat) : Int))], [(0, .box 205 (mkW (runB K64 i.1 firstR s.data.toList).l))]))
    (fun i => s.size / 64 - i.1) 1 ⟨0, Nat.zero_le _⟩ [] ?_ ?_
  · refine Incl.same ?_ ?_ rfl ?_ rfl (Nat.zero_le _) rfl
    · intro p hp
      simp only [List.mem_cons, List.not_mem_nil, or_false] at hp
      rcases hp with rfl | rfl | rfl | rfl <;> rfl
    · intro p hp
      simp only [List.mem_cons, List.not_mem_nil, or_false] at hp
      rcases hp with rfl <;> rfl
    · simp [okH_all, okR, bare_ok (mkW_bare _)]
  rintro ⟨i, hi⟩
  conv => whnf
  dsimp only
  by_cases h : i < s.size / 64
  · rw [show decide (((64 * i : Nat) : Int) < ((64 * (s.size / 64) : Nat) : Int)) = true by simp; omega]
    conv => whnf
    simp only [Int.toNat_natCast]
    refine ⟨by omega, ?_⟩
    conv => whnf
    refine callR [] (blk (runB K64 i firstR s.data.toList) (subB s (64 * i) s.size)) rfl rfl rfl rfl trivial trivial ?_
    conv => whnf
    have hw : IntKind.i64.wrap (((64 * i : Nat) : Int) + 64) = ((64 * (i + 1) : Nat) : Int) := by rw [wrap_small] <;> omega
    have hn : runB K64 (i + 1) firstR s.data.toList = blkP K64 (runB K64 i firstR s.data.toList) (subB s (64 * i) s.size).data.toList := by rw [runB_snoc, subB_drop]
    rw [hw]
    refine ⟨⟨i + 1, h⟩, [], by dsimp only; omega, ?_⟩
    dsimp only
    rw [hn]
    generalize blkP K64 (runB K64 i firstR s.data.toList) (subB s (64 * i) s.size).data.toList = q
    refine Incl.same ?_ ?_ rfl ?_ rfl (Nat.zero_le _) rfl
    · intro p hp
      simp only [List.mem_cons, List.not_mem_nil, or_false] at hp
      rcases hp with rfl | rfl | rfl | rfl <;> rfl
    · intro p hp
      simp only [List.mem_cons, List.not_mem_nil, or_false] at hp
      rcases hp with rfl <;> rfl
    · simp [okH_all, okR, bare_ok (mkW_bare _)]
  · rw [show decide (((64 * i : Nat) : Int) < ((64 * (s.size / 64) : Nat) : Int)) = false by simp; omega]
    have h : i = s.size / 64 := by omega
    have hl : s.data.toList.length = s.size := rfl
    obtain ⟨T, hT⟩ : ∃ T, T = s.data.toList ++ padL s.size := ⟨_, rfl⟩
    have hTl : T.length = s.size + (9 + (119 - s.size % 64) % 64) := by rw [hT, List.length_append, padL_len, hl]
    have hmod := sum_len s.size
    have hq : runB K64 i firstR s.data.toList = runB K64 i firstR T := by rw [hT, runB_app K64 i firstR _ _ (by omega)]
    have hfin : sumB K64 s = ⟨⟨outR (runB K64 (T.length / 64) firstR T)⟩⟩ := by
      unfold sumB sumL
      rw [hl, ← hT, hTl, padL_len]
    rw [hfin]
    generalize hr0 : runB K64 i firstR s.data.toList = r0 at hq
    conv => whnf
    simp only [Int.toNat_natCast]
    refine ⟨by omega, ?_⟩
    conv => whnf
    refine callR [] (padP s.size hs) rfl rfl rfl rfl trivial trivial ?_
    conv => whnf
    have hps : (ByteArray.mk ⟨padL s.size⟩).size = 9 + (119 - s.size % 64) % 64 := padL_len _
    refine ⟨by unfold big; rw [hps]; have : (subB s (64 * (s.size / 64)) s.size).size ≤ s.size := by { rw [subB_to]; show (List.drop _ _).length ≤ _; rw [List.length_drop]; exact Nat.sub_le _ _ }; omega, ?_⟩
    conv => whnf
    have hrest : catB (subB s (64 * (s.size / 64)) s.size) ⟨⟨padL s.size⟩⟩ = ⟨⟨T.drop (64 * i)⟩⟩ := by
      rw [subB_to, hT, List.drop_append_of_le_length (by omega), h]; rfl
    rw [hrest]
    subst hq
    have dsz : ∀ a, (ByteArray.mk ⟨T.drop a⟩).size = T.length - a := fun a => List.length_drop
    have eT : ∀ a, eqB ⟨⟨T.drop a⟩⟩ ⟨#[]⟩ = decide (T.length ≤ a) := fun a => by
      rw [eqB_eq]
      apply decide_eq_decide.2
      constructor
      · intro e; have := congrArg ByteArray.size e; rw [dsz] at this; have h0 : (ByteArray.mk #[]).size = 0 := rfl; omega
      · intro e; rw [List.drop_of_length_le e]
    refine loopR Tryz.hT Tryz.hM Tryz.hE (α := {j : Nat // j ≤ T.length / 64 - i})
      (fun j => ([(3, .ptr 0 0), (6, .str ⟨⟨T.drop (64 * (i + j.1))⟩⟩)], [(0, .box 205 (mkW (runB K64 (i + j.1) firstR T).l))]))
      (fun j => T.length / 64 - i - j.1) 1 ⟨0, Nat.zero_le _⟩ [] ?_ ?_
    · refine Incl.same ?_ ?_ rfl ?_ rfl (Nat.zero_le _) rfl
      · intro p hp
        simp only [List.mem_cons, List.not_mem_nil, or_false] at hp
        rcases hp with rfl | rfl <;> rfl
      · intro p hp
        simp only [List.mem_cons, List.not_mem_nil, or_false] at hp
        rcases hp with rfl <;> rfl
      · simp [okH_all, okR, bare_ok (mkW_bare _), renH]
    rintro ⟨j, hj⟩
    conv => whnf
    dsimp only
    by_cases hjl : j < T.length / 64 - i
    · rw [eT, show decide (T.length ≤ 64 * (i + j)) = false by simp; omega]
      conv => whnf
      refine callR [] (blk (runB K64 (i + j) firstR T) ⟨⟨T.drop (64 * (i + j))⟩⟩) rfl rfl rfl rfl trivial trivial ?_
      conv => whnf
      refine ⟨⟨by decide, by rw [dsz]; omega⟩, ?_⟩
      conv => whnf
      have hn : runB K64 (i + (j + 1)) firstR T = blkP K64 (runB K64 (i + j) firstR T) (T.drop (64 * (i + j))) := by rw [show i + (j + 1) = i + j + 1 by omega, runB_snoc]
      have hd : subB ⟨⟨T.drop (64 * (i + j))⟩⟩ 64 (ByteArray.mk ⟨T.drop (64 * (i + j))⟩).size = ⟨⟨T.drop (64 * (i + (j + 1)))⟩⟩ := by
        rw [subB_to]
        show (ByteArray.mk ⟨(T.drop (64 * (i + j))).drop 64⟩) = _
        rw [List.drop_drop]
        congr 3
      refine ⟨⟨j + 1, by omega⟩, [], by dsimp only; omega, ?_⟩
      dsimp only
      rw [hn]
      generalize blkP K64 (runB K64 (i + j) firstR T) (T.drop (64 * (i + j))) = q
      refine Incl.same ?_ ?_ rfl ?_ rfl (Nat.zero_le _) rfl
      · intro p hp
        simp only [List.mem_cons, List.not_mem_nil, or_false] at hp
        rcases hp with rfl | rfl
        · rfl
        · show some (AV.str _) = some (AV.str _)
          exact congrArg (fun x => some (AV.str x)) hd
      · intro p hp
        simp only [List.mem_cons, List.not_mem_nil, or_false] at hp
        rcases hp with rfl <;> rfl
      · simp [okH_all, okR, bare_ok (mkW_bare _), renH]
    · rw [eT, show decide (T.length ≤ 64 * (i + j)) = true by simp; omega]
      have hjj : i + j = T.length / 64 := by omega
      rw [hjj]
      generalize runB K64 (T.length / 64) firstR T = q
      conv => whnf
      refine ⟨by decide, ?_⟩
      conv => whnf
      refine unrollR Tryz.hT Tryz.hM Tryz.hE 9 ?_
      conv => whnf
      repeat (refine ⟨by decide, ?_⟩; conv => whnf)
      refine finS ?_
      conv => lhs; whnf
      have e := outR_ints q
      rw [e]
      simp only [b4I, List.cons_append, List.nil_append]
end Go.Proofs.YtglkoaajgekonaaGreatDoor
