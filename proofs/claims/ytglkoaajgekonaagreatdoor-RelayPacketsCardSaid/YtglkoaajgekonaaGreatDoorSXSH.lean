/- SX, part SH: the plain law of the sum: the program's rounds and words are the document's; blocks and what stands behind them. -/
import Derived.Test.YtglkoaajgekonaaGreatDoorSXU
namespace Go.SX
def m32 (a : Nat) : Nat := a % 4294967296
theorem or32_m (a b : Nat) : or32 a b = m32 a ||| m32 b := rfl
theorem or_add {x b : Nat} (h : x < 16777216) (hb : b < 256) : or32 (shl32 x 8) b = x * 256 + b := by
 have e1 : shl32 x 8 = x * 256 := by show (x * 2 ^ 8) % 4294967296 = _; omega
 rw [e1, or32_m]
 have e2 : m32 (x * 256) = 2 ^ 8 * x := by unfold m32; omega
 have e3 : m32 b = b := by unfold m32; omega
 rw [e2, e3, ← Nat.two_pow_add_eq_or_of_lt (by simpa using hb)]; omega
theorem wrd4 (b : List UInt8) (a : Nat) : wrd b a 4 = ((byteD b a * 256 + byteD b (a + 1)) * 256 + byteD b (a + 2)) * 256 + byteD b (a + 3) := by
 have h0 := byteD_lt b a; have h1 := byteD_lt b (a + 1); have h2 := byteD_lt b (a + 2); have h3 := byteD_lt b (a + 3)
 have e1 : wrd b a 1 = byteD b a := by
  show or32 (shl32 0 8) (byteD b a) = _
  rw [or_add (x := 0) (by decide) h0]; omega
 have e2 : wrd b a 2 = byteD b a * 256 + byteD b (a + 1) := by
  show or32 (shl32 (wrd b a 1) 8) (byteD b (a + 1)) = _
  rw [e1, or_add (by omega) h1]
 have e3 : wrd b a 3 = (byteD b a * 256 + byteD b (a + 1)) * 256 + byteD b (a + 2) := by
  show or32 (shl32 (wrd b a 2) 8) (byteD b (a + 2)) = _
  rw [e2, or_add (by omega) h2]
 show or32 (shl32 (wrd b a 3) 8) (byteD b (a + 3)) = _
 rw [e3, or_add (by omega) h3]
theorem or_hi {x y k : Nat} (hx : x < 4294967296) (hd : x % 2 ^ k = 0) (hy : y < 2 ^ k) (hk : k ≤ 32) : or32 x y = x + y := by
 have hy2 : y < 4294967296 := Nat.lt_of_lt_of_le hy (Nat.pow_le_pow_right (n := 2) (by decide) hk)
 rw [or32_m, show m32 x = x from Nat.mod_eq_of_lt hx, show m32 y = y from Nat.mod_eq_of_lt hy2]
 have e : x = 2 ^ k * (x / 2 ^ k) := by have := Nat.div_add_mod x (2 ^ k); omega
 rw [e, ← Nat.two_pow_add_eq_or_of_lt hy]
theorem shl_eq {x k : Nat} (h : x * 2 ^ k < 4294967296) : shl32 x k = x * 2 ^ k := Nat.mod_eq_of_lt h
theorem wrdP_wrd (b : List UInt8) (t : Nat) : wrdP b t = wrd b (4 * t) 4 := by
 have h0 := byteD_lt b (4 * t); have h1 := byteD_lt b (4 * t + 1); have h2 := byteD_lt b (4 * t + 2); have h3 := byteD_lt b (4 * t + 3)
 rw [wrd4]
 unfold wrdP
 simp only [byteF_eq, Nat.mul_eq, Nat.add_eq]
 generalize byteD b (4 * t) = p at *
 generalize byteD b (4 * t + 1) = q at *
 generalize byteD b (4 * t + 2) = r at *
 generalize byteD b (4 * t + 3) = s at *
 rw [shl_eq (x := p) (k := 24) (by omega), shl_eq (x := q) (k := 16) (by omega), shl_eq (x := r) (k := 8) (by omega)]
 have e0 : or32 0 (p * 2 ^ 24) = p * 2 ^ 24 := by
  rw [or32_m, show m32 0 = 0 from rfl, Nat.zero_or]
  exact Nat.mod_eq_of_lt (by omega)
 rw [e0, or_hi (x := p * 2 ^ 24) (k := 24) (by omega) (by omega) (by omega) (by decide)]
 rw [or_hi (x := p * 2 ^ 24 + q * 2 ^ 16) (k := 16) (by omega) (by omega) (by omega) (by decide)]
 rw [show shl32 s 0 = s by show (s * 2 ^ 0) % 4294967296 = s; omega]
 rw [or_hi (x := p * 2 ^ 24 + q * 2 ^ 16 + r * 2 ^ 8) (k := 8) (by omega) (by omega) (by omega) (by decide)]
 omega
theorem byteD_take (b : List UInt8) (i : Nat) (h : i < 64) : byteD (b.take 64) i = byteD b i := by
 unfold byteD
 rw [List.getD_eq_getElem?_getD, List.getD_eq_getElem?_getD, List.getElem?_take, if_pos h]
theorem spr_take (b : List UInt8) : sprP (b.take 64) = sprP b := by
 have h : (List.range 16).map (wrdP (b.take 64)) = (List.range 16).map (wrdP b) := by
  apply List.map_congr_left
  intro t ht
  have ht := List.mem_range.1 ht
  rw [wrdP_wrd, wrdP_wrd, wrd4, wrd4, byteD_take _ _ (by omega), byteD_take _ _ (by omega), byteD_take _ _ (by omega), byteD_take _ _ (by omega)]
 rw [sprP_gen, sprP_gen, h]
theorem blk_take (K : List Nat) (r : R8) (b : List UInt8) : blkP K r (b.take 64) = blkP K r b := by
 unfold blkP; rw [spr_take]
theorem blk_app (K : List Nat) (r : R8) {b c : List UInt8} (h : 64 ≤ b.length) : blkP K r (b ++ c) = blkP K r b := by
 rw [← blk_take K r (b ++ c), ← blk_take K r b, List.take_append_of_le_length h]
def lenB (n : Nat) : List UInt8 := (List.range 8).map fun i => UInt8.ofNat (n * 8 / 256 ^ (7 - i) % 256)
def padL (n : Nat) : List UInt8 := 128 :: (List.replicate ((119 - n % 64) % 64) 0 ++ lenB n)
theorem padL_len (n : Nat) : (padL n).length = 9 + (119 - n % 64) % 64 := by simp [padL, lenB]; omega
def runB (K : List Nat) : Nat → R8 → List UInt8 → R8
 | 0, r, _ => r
 | k + 1, r, l => runB K k (blkP K r l) (l.drop 64)
def firstR : R8 := ⟨0x6a09e667, 0xbb67ae85, 0x3c6ef372, 0xa54ff53a, 0x510e527f, 0x9b05688c, 0x1f83d9ab, 0x5be0cd19⟩
def b4 (x : Nat) : List UInt8 := [UInt8.ofNat (x / 16777216 % 256), UInt8.ofNat (x / 65536 % 256), UInt8.ofNat (x / 256 % 256), UInt8.ofNat (x % 256)]
def outR (r : R8) : List UInt8 := r.l.flatMap b4
theorem outR_len (r : R8) : (outR r).length = 32 := rfl
def sumL (K : List Nat) (l : List UInt8) : List UInt8 := outR (runB K ((l.length + (padL l.length).length) / 64) firstR (l ++ padL l.length))
def sumB (K : List Nat) (s : ByteArray) : ByteArray := ⟨⟨sumL K s.data.toList⟩⟩
theorem sumB_size (K : List Nat) (s : ByteArray) : (sumB K s).size = 32 := outR_len _
theorem runB_add (K : List Nat) : ∀ (a b : Nat) (r : R8) (l : List UInt8), runB K (a + b) r l = runB K b (runB K a r l) (l.drop (64 * a))
 | 0, b, r, l => by simp [runB]
 | a + 1, b, r, l => by
  rw [show a + 1 + b = (a + b) + 1 by omega, runB, runB_add K a b, runB, List.drop_drop]
  congr 2; omega
theorem runB_app (K : List Nat) : ∀ (a : Nat) (r : R8) (l c : List UInt8), 64 * a ≤ l.length → runB K a r (l ++ c) = runB K a r l
 | 0, _, _, _, _ => rfl
 | a + 1, r, l, c, h => by
  rw [runB, runB, blk_app K r (by omega), List.drop_append_of_le_length (by omega), runB_app K a _ _ _ (by rw [List.length_drop]; omega)]
theorem sum_len (n : Nat) : (n + (9 + (119 - n % 64) % 64)) % 64 = 0 := by omega
end Go.SX
-- SQUEEZED
