/- SX, part V: words of 32 bits; the sum's inner function. -/
import Derived.Test.YthmiaipampdegaaGreatDoorSXU
namespace Go.SX
noncomputable section

def add32 (a b : Nat) : Nat := Nat.mod (Nat.add a b) 4294967296
def xor32 (a b : Nat) : Nat := Nat.xor (Nat.mod a 4294967296) (Nat.mod b 4294967296)
def and32 (a b : Nat) : Nat := Nat.land (Nat.mod a 4294967296) (Nat.mod b 4294967296)
def or32 (a b : Nat) : Nat := Nat.lor (Nat.mod a 4294967296) (Nat.mod b 4294967296)
def shl32 (a k : Nat) : Nat := Nat.mod (Nat.mul a (Nat.pow 2 k)) 4294967296
def shr32 (a k : Nat) : Nat := Nat.div a (Nat.pow 2 k)
def not32 (a : Nat) : Nat := xor32 4294967295 a
/-- Turned to the left by s. -/
def rot32 (x s : Nat) : Nat := or32 (shl32 x s) (shr32 x (Nat.sub 32 s))

theorem i_add (a b : Nat) : IntKind.u32.wrap ((a : Int) + (b : Int)) = ((add32 a b : Nat) : Int) := by
  have := wrapN_eq .u32 (a + b)
  exact this.symm
theorem and_lt {a b : Nat} : and32 a b < 4294967296 := Nat.lt_of_le_of_lt Nat.and_le_left (Nat.mod_lt _ (by decide))
theorem or_lt {a b : Nat} : or32 a b < 4294967296 := Nat.or_lt_two_pow (n := 32) (Nat.mod_lt _ (by decide)) (Nat.mod_lt _ (by decide))
theorem xor_lt {a b : Nat} : xor32 a b < 4294967296 := Nat.xor_lt_two_pow (n := 32) (Nat.mod_lt _ (by decide)) (Nat.mod_lt _ (by decide))
theorem i_xor (a b : Nat) : ibit .xor .u32 (a : Int) (b : Int) = ((xor32 a b : Nat) : Int) := by
  rw [← xor_eq]
  show (Int.ofNat (Nat.mod (xor32 a b) 4294967296)) = _
  rw [show Nat.mod (xor32 a b) 4294967296 = xor32 a b from Nat.mod_eq_of_lt xor_lt]; rfl
theorem i_and (a b : Nat) : ibit .and .u32 (a : Int) (b : Int) = ((and32 a b : Nat) : Int) := by
  rw [← and_eq]
  show (Int.ofNat (Nat.mod (and32 a b) 4294967296)) = _
  rw [show Nat.mod (and32 a b) 4294967296 = and32 a b from Nat.mod_eq_of_lt and_lt]; rfl
theorem i_or (a b : Nat) : ibit .or .u32 (a : Int) (b : Int) = ((or32 a b : Nat) : Int) := by
  rw [← or_eq]
  show (Int.ofNat (Nat.mod (or32 a b) 4294967296)) = _
  rw [show Nat.mod (or32 a b) 4294967296 = or32 a b from Nat.mod_eq_of_lt or_lt]; rfl
theorem i_shl (a k : Nat) (hk : k ≤ 32) : shlI .u32 (a : Int) (k : Int) = ((shl32 a k : Nat) : Int) := by
  rw [← shlQ_eq]
  show wrapN .u32 (a * 2 ^ minN (Int.toNat (k : Int)) 32) = _
  rw [minN_eq, Int.toNat_natCast, Nat.min_eq_left hk]; rfl
theorem i_shr (a k : Nat) (hk : k ≤ 32) : shrI .u32 (a : Int) (k : Int) = ((shr32 a k : Nat) : Int) := by
  rw [← shrQ_eq]
  show Int.ofNat (a / 2 ^ minN (Int.toNat (k : Int)) 32) = _
  rw [minN_eq, Int.toNat_natCast, Nat.min_eq_left hk]; rfl

/-- Cells of words. -/
def mkW (l : List Nat) : List AV := l.map fun x : Nat => AV.int .u32 (x : Int)
theorem mkW_len (l : List Nat) : (mkW l).length = l.length := by simp [mkW]
theorem mkW_bare (l : List Nat) : (mkW l).all bareA = true := by simp [mkW, bareA]
theorem readA_mk {l : List Nat} {i : Nat} (h : i < l.length) : readA false 1 (mkW l) i = some (.int .u32 ((l.getD i 0 : Nat) : Int)) := by
  simp [readA, nth_eq, mkW, h]
theorem splice_mk {l : List Nat} {i : Nat} {x : Nat} (h : i < l.length) : splice (mkW l) i [.int .u32 (x : Int)] = mkW (l.set i x) := by
  rw [splice_def]
  apply List.ext_getElem?
  intro j
  have hl : (mkW l).length = l.length := mkW_len l
  by_cases h1 : j < i
  · rw [List.getElem?_append_left (by simp [hl]; omega), List.getElem?_take, if_pos h1]
    simp only [mkW, List.getElem?_map]
    rw [List.getElem?_set_ne (by omega)]
  · rw [List.getElem?_append_right (by simp [hl]; omega)]
    simp only [List.length_take, hl]
    rw [show min i l.length = i by omega]
    by_cases h2 : j = i
    · subst h2
      simp [mkW, h]
    · rw [List.getElem?_append_right (by simp; omega), List.getElem?_drop]
      simp only [mkW, List.getElem?_map, List.length_cons, List.length_nil]
      rw [List.getElem?_set_ne (by omega)]
      congr 2; omega

/-- How a word is made from four that stand before it: program and document add in different orders. -/
def sch (x y a b : Nat) : Nat := add32 (add32 (add32 a (xor32 (xor32 (rot32 x 25) (rot32 x 14)) (shr32 x 3))) b) (xor32 (xor32 (rot32 y 15) (rot32 y 13)) (shr32 y 10))
def schB (x y a b : Nat) : Nat := add32 (add32 (add32 a b) (xor32 (xor32 (rot32 x 25) (rot32 x 14)) (shr32 x 3))) (xor32 (xor32 (rot32 y 15) (rot32 y 13)) (shr32 y 10))

theorem add32_eq (a b : Nat) : add32 a b = (a + b) % 4294967296 := rfl
theorem schB_eq (x y a b : Nat) : schB x y a b = sch x y a b := by
  unfold schB sch
  generalize xor32 (xor32 (rot32 x 25) (rot32 x 14)) (shr32 x 3) = l
  generalize xor32 (xor32 (rot32 y 15) (rot32 y 13)) (shr32 y 10) = m
  simp only [add32_eq]; omega

/-- The bytes of a block as words, as the program makes them. -/
def byteD (b : List UInt8) (i : Nat) : Nat := (b.getD i 0).toNat
def w1 (b : List UInt8) (i : Nat) (W : List Nat) : List Nat := W.set (i / 4) (or32 (W.getD (i / 4) 0) (shl32 (byteD b i) (24 - 8 * (i % 4))))
def st1 (b : List UInt8) : Nat → List Nat
  | 0 => List.replicate 64 0
  | i + 1 => w1 b i (st1 b i)
def w2 (t : Nat) (W : List Nat) : List Nat := W.set t (sch (W.getD (t - 15) 0) (W.getD (t - 2) 0) (W.getD (t - 16) 0) (W.getD (t - 7) 0))
def st2 (W : List Nat) : Nat → List Nat
  | 0 => W
  | k + 1 => w2 (16 + k) (st2 W k)
def sprP (b : List UInt8) : List Nat := st2 (st1 b (min 64 b.length)) 48
theorem st1_len (b : List UInt8) : ∀ i, (st1 b i).length = 64
  | 0 => by simp [st1]
  | i + 1 => by simp [st1, w1, st1_len b i]
theorem st2_len (W : List Nat) (h : W.length = 64) : ∀ i, (st2 W i).length = 64
  | 0 => h
  | i + 1 => by simp [st2, w2, st2_len W h i]

/-- The registers. -/
structure R8 where
  (a b c d e f g h : Nat)
def R8.l (r : R8) : List Nat := [r.a, r.b, r.c, r.d, r.e, r.f, r.g, r.h]
def oneP (k w : Nat) (r : R8) : Nat := add32 (add32 (add32 (add32 r.h (xor32 (xor32 (rot32 r.e 26) (rot32 r.e 21)) (rot32 r.e 7))) (xor32 r.g (and32 r.e (xor32 r.f r.g)))) k) w
def twoP (r : R8) : Nat := add32 (xor32 (xor32 (rot32 r.a 30) (rot32 r.a 19)) (rot32 r.a 10)) (or32 (and32 r.a (or32 r.b r.c)) (and32 r.b r.c))
def rndP (k w : Nat) (r : R8) : R8 := ⟨add32 (oneP k w r) (twoP r), r.a, r.b, r.c, add32 r.d (oneP k w r), r.e, r.f, r.g⟩
def itP (K W : List Nat) (r : R8) : Nat → R8
  | 0 => r
  | t + 1 => rndP (K.getD t 0) (W.getD t 0) (itP K W r t)
def addR (r s : R8) : R8 := ⟨add32 r.a s.a, add32 r.b s.b, add32 r.c s.c, add32 r.d s.d, add32 r.e s.e, add32 r.f s.f, add32 r.g s.g, add32 r.h s.h⟩
def blkP (K : List Nat) (r : R8) (b : List UInt8) : R8 := addR r (itP K (sprP b) r 64)

def rotI (x : Int) (s : Nat) : Int := ibit .or .u32 (shlI .u32 x (s : Int)) (shrI .u32 x ((32 - s : Nat) : Int))
theorem i_rot (x s : Nat) (h : s ≤ 32) : rotI (x : Int) s = ((rot32 x s : Nat) : Int) := by
  unfold rotI
  rw [i_shl _ _ h, i_shr _ _ (by omega), i_or]; rfl

/-- Turned to the right by m, where m is one of those that are used. -/
def rotS (m : Nat) : Option Nat := match Nat.ble 1 m && Nat.ble m 31 with | true => some (Nat.sub 32 m) | false => none
theorem rotS_ok {m s : Nat} (h : rotS m = some s) : 1 ≤ m ∧ m ≤ 31 ∧ s = 32 - m := by
  unfold rotS at h
  split at h
  · rename_i hb
    simp only [Bool.and_eq_true] at hb
    cases h
    exact ⟨Nat.le_of_ble_eq_true hb.1, Nat.le_of_ble_eq_true hb.2, rfl⟩
  · cases h
def downP (f : Nat) (k : IntKind) : Pure := fun g vs => match Nat.beq g f, vs with
  | true, [.int .u32 x, .int k' (.ofNat m)] => match IntKind.same k' k, rotS m with
    | true, some s => some (.int .u32 (rotI x s))
    | _, _ => none
  | _, _ => none

/-- u64 of a negative number, its last five bits. -/
theorem and31 (m : Nat) (h1 : 1 ≤ m) (h2 : m ≤ 31) : ibit .and .u64 (IntKind.u64.wrap (-(m : Int))) 31 = ((32 - m : Nat) : Int) := by
  have : ∀ m : _root_.Fin 32, 1 ≤ m.val → ibit .and .u64 (IntKind.u64.wrap (-(m.val : Int))) 31 = ((32 - m.val : Nat) : Int) := by decide
  exact this ⟨m, by omega⟩ h1

theorem wrap_nat64 (m : Nat) (h : m < 18446744073709551616) : IntKind.u64.wrap (m : Int) = (m : Int) := by
  have := wrapN_eq .u64 m
  rw [show (m : Int) = Int.ofNat m from rfl, ← this]
  show Int.ofNat (m % 18446744073709551616) = _
  rw [Nat.mod_eq_of_lt h]
theorem wrap_nat32 (m : Nat) (h : m < 4294967296) : IntKind.u32.wrap (m : Int) = (m : Int) := by
  have := wrapN_eq .u32 m
  rw [show (m : Int) = Int.ofNat m from rfl, ← this]
  show Int.ofNat (m % 4294967296) = _
  rw [Nat.mod_eq_of_lt h]

theorem ble_mk {l : List Nat} {i : Nat} (h : i < l.length) : Nat.ble (i + 1) (mkW l).length = true := Nat.ble_eq_true_of_le (by rw [mkW_len]; omega)

theorem i_rot' (x m : Nat) : rotI (x : Int) (Nat.sub 32 m) = ((rot32 x (Nat.sub 32 m) : Nat) : Int) := i_rot x _ (Nat.sub_le _ _)
theorem i_shr3 (a : Nat) : shrI .u32 (a : Int) 3 = ((shr32 a 3 : Nat) : Int) := i_shr a 3 (by decide)
theorem i_shr10 (a : Nat) : shrI .u32 (a : Int) 10 = ((shr32 a 10 : Nat) : Int) := i_shr a 10 (by decide)

theorem readA_all {l : List Nat} {n : Nat} (h : l.length = n) : readA true n (mkW l) 0 = some (.agg (mkW l)) := by
  have : (mkW l).length = n := by rw [mkW_len, h]
  simp [readA, this, Nat.ble_eq_true_of_le (Nat.le_refl n), List.take_of_length_le (Nat.le_of_eq this)]

theorem putM0 {P : Program} {pu : Pure} {rh : Option Nat} {o : Oper} {v : AV} {fr : Fr} {H : Heap} {n sz : Nat} {df : List Df} {log : List (List Nat × List Nat)} {bs : Nat} {rd wr : List Nat} {K : St → Prop} :
    putM (AskR P pu rh) o v fr H n sz df log bs rd wr K = put0 o v fr H n sz df log bs rd wr K := by
  unfold put0 putM
  cases o.dst with
  | none => rfl
  | some d => simp only [force_eq]; rfl
theorem mkW_leaf (l : List Nat) : (mkW l).all leafA = true := bare_leaf (mkW_bare l)
theorem splice_whole {cs ws : List AV} (h : cs.length = ws.length) : splice cs 0 ws = ws := by
  rw [splice_def, List.take_zero, List.nil_append, List.drop_eq_nil_of_le (by omega), List.append_nil]

theorem resL_cell {T : Tab} {fr : Fr} {H : Heap} {s ty h off e : Nat} {cs : List AV} {r : TRow} {v : AV} (h1 : look fr s = some (.ptr h off)) (h2 : look H h = some (.box e cs)) (h3 : T ty = some r) (h4 : readA r.agg r.size cs off = some v) :
    resL T fr H [.cell s ty] = some [v] := by
  rw [resL_cons, resL_nil]
  simp only [resA, h1, h2, h3, h4]

theorem sprP_eq (b : List UInt8) : sprP b = st2 (st1 b (min 64 b.length)) 48 := rfl
theorem sprP_len (b : List UInt8) : (sprP b).length = 64 := st2_len _ (st1_len _ _) _
attribute [irreducible] sprP

/-- A loop of few rounds, each walked. -/
theorem unrollR {P : Program} {T : Tab} (hT : TabOK P T) (hm : P.follows .mixedOrders = true) {pu : Pure} (hp : PureOK P pu) {body : Code} {Q : Exit → St → Prop} {s : St} (n : Nat) (h : rounds (AskR P pu) (vcCode (AskR P pu) T body) Q n s) : AtLoop P none body Q s :=
  ⟨fun hst => rounds_sound (A := AskR P pu) (tr := fun p => p) (fun h => h) (fun h => vcCode_sound' hT hm (askROK P hp) body h hst) n h⟩

/-- The reference's words and rounds. -/
def turnI (x : Int) (m : Nat) : Int := ibit .or .u32 (shrI .u32 x (m : Int)) (shlI .u32 x ((32 - m : Nat) : Int))
theorem i_turn (x m : Nat) (h : m ≤ 32) : turnI (x : Int) m = ((rot32 x (Nat.sub 32 m) : Nat) : Int) := by
  unfold turnI
  rw [i_shl _ _ (by omega), i_shr _ _ h, i_or]
  unfold rot32 or32
  rw [show Nat.sub 32 (Nat.sub 32 m) = m by show 32 - (32 - m) = m; omega]
  congr 1
  exact Nat.or_comm _ _
def turnP (f : Nat) : Pure := fun g vs => match Nat.beq g f, vs with
  | true, [.int .u32 x, .int .u64 (.ofNat m)] => match Nat.ble m 32 with
    | true => some (.int .u32 (turnI x m))
    | _ => none
  | _, _ => none
def wrd (b : List UInt8) (at_ : Nat) : Nat → Nat
  | 0 => 0
  | j + 1 => or32 (shl32 (wrd b at_ j) 8) (byteD b (at_ + j))
theorem or_zero (x : Nat) : or32 (shl32 x 8) 0 = shl32 x 8 := by
  unfold or32
  have : shl32 x 8 < 4294967296 := Nat.mod_lt _ (by decide)
  show Nat.lor (shl32 x 8 % 4294967296) (0 % 4294967296) = _
  rw [Nat.mod_eq_of_lt this]
  exact Nat.or_zero _
theorem byteD_end {b : List UInt8} {i : Nat} (h : b.length ≤ i) : byteD b i = 0 := by
  unfold byteD; rw [List.getD_eq_getElem?_getD, List.getElem?_eq_none h]; rfl
theorem byteD_lt (b : List UInt8) (i : Nat) : byteD b i < 256 := by unfold byteD; exact UInt8.toNat_lt _
theorem byteAt_eq {b : ByteArray} {i : Nat} (h : i < b.size) : byteAt b (i : Int) = ((byteD b.data.toList i : Nat) : Int) := by
  unfold byteAt byteD
  rw [Int.toNat_natCast, getElem?_pos b i h, List.getD_eq_getElem?_getD, List.getElem?_eq_getElem (by simpa using h)]; rfl
def sw1 (b : List UInt8) : Nat → List Nat
  | 0 => List.replicate 64 0
  | t + 1 => (sw1 b t).set t (wrd b (4 * t) 4)
theorem sw1_len (b : List UInt8) : ∀ i, (sw1 b i).length = 64
  | 0 => by simp [sw1]
  | i + 1 => by simp [sw1, sw1_len b i]
def sw2 (W : List Nat) : Nat → List Nat
  | 0 => W
  | k + 1 => (sw2 W k).set (16 + k) (schB ((sw2 W k).getD (16 + k - 15) 0) ((sw2 W k).getD (16 + k - 2) 0) ((sw2 W k).getD (16 + k - 16) 0) ((sw2 W k).getD (16 + k - 7) 0))
theorem sw2_len (W : List Nat) (h : W.length = 64) : ∀ i, (sw2 W i).length = 64
  | 0 => h
  | i + 1 => by simp [sw2, sw2_len W h i]
def sprR (b : List UInt8) : List Nat := sw2 (sw1 b 16) 48
theorem sprR_eq (b : List UInt8) : sprR b = sw2 (sw1 b 16) 48 := rfl
theorem sprR_len (b : List UInt8) : (sprR b).length = 64 := sw2_len _ (sw1_len _ _) _
attribute [irreducible] sprR
def oneR (k w : Nat) (r : R8) : Nat := add32 (add32 (add32 (add32 r.h (xor32 (xor32 (rot32 r.e 26) (rot32 r.e 21)) (rot32 r.e 7))) (xor32 (and32 r.e r.f) (and32 (not32 r.e) r.g))) k) w
def twoR (r : R8) : Nat := add32 (xor32 (xor32 (rot32 r.a 30) (rot32 r.a 19)) (rot32 r.a 10)) (xor32 (xor32 (and32 r.a r.b) (and32 r.a r.c)) (and32 r.b r.c))
def rndR (k w : Nat) (r : R8) : R8 := ⟨add32 (oneR k w r) (twoR r), r.a, r.b, r.c, add32 r.d (oneR k w r), r.e, r.f, r.g⟩
def itR (K W : List Nat) (r : R8) : Nat → R8
  | 0 => r
  | t + 1 => rndR (K.getD t 0) (W.getD t 0) (itR K W r t)
def blkR (K : List Nat) (r : R8) (b : List UInt8) : R8 := addR (itR K (sprR b) r 64) r

theorem i_shl8 (a : Nat) : shlI .u32 (a : Int) 8 = ((shl32 a 8 : Nat) : Int) := i_shl a 8 (by decide)

theorem i_not (e : Nat) : ibit .xor .u32 (if IntKind.u32.signed = true then -1 else IntKind.u32.max) (e : Int) = ((not32 e : Nat) : Int) := by
  have : (if IntKind.u32.signed = true then (-1 : Int) else IntKind.u32.max) = ((4294967295 : Nat) : Int) := by decide
  rw [this, i_xor]; rfl

end
end Go.SX
