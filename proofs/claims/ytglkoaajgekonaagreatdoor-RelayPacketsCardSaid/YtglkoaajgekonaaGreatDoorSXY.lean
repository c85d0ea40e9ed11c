/- SX, part Y: the computing walk, written for the kernel: arms without free variables, under recursors. Printed by genY.py. -/
import Derived.Test.YtglkoaajgekonaaGreatDoorSXP
namespace Go.SX
noncomputable section
inductive Why where
  | bad
  | ob (p : Prop)
  | op (o : Oper) (s : St)
  | call (g : FuncId) (w : Why)
  | code (c : Code)
  | noFn (g : FuncId)
  | fuel
  | entry (vs : List AV) (H : Heap)
  | exit (n : Nat) (pre : Heap) (v : AV) (post : Heap) (n' : Nat)
inductive Got (β : Type) where
  | ok (x : β)
  | no (w : Why)
abbrev G := Got (AV × Heap × Nat)
abbrev FK := (AV → G) → G
abbrev PT := Ans G → Tab → Oper → Fr → Heap → Nat → Nat → List Df → List (List Nat × List Nat) → Nat → (St → G) → G
structure Std (A : Ans G) : Prop where
  pre : ∀ o s K d, A.pre o s K d = d
def f0Bool (b : Bool) (K : AV → G) : G := K (.bool b)
def f0Int (k : IntKind) (n : Int) (K : AV → G) : G := intK n fun n => K (.int k n)
def f0Str (s : ByteArray) (K : AV → G) : G := strK s fun s => K (.str s)
def f0Hd (h : Nat) (K : AV → G) : G := numK h fun h => K (.hd h)
def f0Sl (h n : Nat) (K : AV → G) : G := numK h fun h => numK n fun n => K (.sl h n)
def f0Ptr (h o : Nat) (K : AV → G) : G := numK h fun h => numK o fun o => K (.ptr h o)
def f0El (h z i o : Nat) (K : AV → G) : G := numK h fun h => numK i fun i => numK o fun o => K (.el h z i o)
def f0Slc (h o l c : Nat) (K : AV → G) : G := numK h fun h => numK o fun o => numK l fun l => numK c fun c => K (.slc h o l c)
def f0Sv (h z i l : Nat) (c : Option Nat) (K : AV → G) : G := numK h fun h => numK i fun i => numK l fun l => Option.rec (motive := fun _ => G) (K (.sv h z i l none)) (fun c => numK c fun c => K (.sv h z i l (some c))) c
def f0Yld (h : Nat) (K : AV → G) : G := numK h fun h => K (.yld h)
def f0Nilp  (K : AV → G) : G := K (.nilp)
def f0Nils  (K : AV → G) : G := K (.nils)
def f0Nilm  (K : AV → G) : G := K (.nilm)
def f0Nilf  (K : AV → G) : G := K (.nilf)
def f0Nili  (K : AV → G) : G := K (.nili)
def f0Agg (l : List AV) (K : AV → G) : G := K (.agg l)
def f0Tup (l : List AV) (K : AV → G) : G := K (.tup l)
def f0Iface (t : TypeId) (v : AV) (K : AV → G) : G := K (.iface t v)
def f0Fn (f : Fn) (l m : List AV) (K : AV → G) : G := K (.fn f l m)
def f0Raw (v : Value) (K : AV → G) : G := K (.raw v)
def forceZ (v : AV) : FK := AV.rec (motive_1 := fun _ => FK) (motive_2 := fun _ => Unit) f0Bool f0Int f0Str f0Hd f0Sl f0Ptr f0El f0Slc f0Sv f0Yld f0Nilp f0Nils f0Nilm f0Nilf f0Nili (fun l _ => f0Agg l) (fun l _ => f0Tup l) (fun t v _ => f0Iface t v) (fun f l m _ _ => f0Fn f l m) f0Raw () (fun _ _ _ _ => ()) v
theorem forceZ_eq (v : AV) (K : AV → G) : forceZ v K = K v := by
  cases v with
  | sv h z i l c => cases c <;> simp [forceZ, f0Sv, numK_eq]
  | _ => simp [forceZ, f0Bool, f0Int, f0Str, f0Hd, f0Sl, f0Ptr, f0El, f0Slc, f0Sv, f0Yld, f0Nilp, f0Nils, f0Nilm, f0Nilf, f0Nili, f0Agg, f0Tup, f0Iface, f0Fn, f0Raw, numK_eq, intK_eq, strK_eq]
def f1Agg (l : List AV) (K : AV → G) : G := forceL forceZ l fun l => K (.agg l)
def f1Fn (f : Fn) (l m : List AV) (K : AV → G) : G := forceL forceZ l fun l => forceL forceZ m fun m => K (.fn f l m)
def forceY (v : AV) : FK := AV.rec (motive_1 := fun _ => FK) (motive_2 := fun _ => Unit) f0Bool f0Int f0Str f0Hd f0Sl f0Ptr f0El f0Slc f0Sv f0Yld f0Nilp f0Nils f0Nilm f0Nilf f0Nili (fun l _ => f1Agg l) (fun l _ => f0Tup l) (fun t v _ => f0Iface t v) (fun f l m _ _ => f1Fn f l m) f0Raw () (fun _ _ _ _ => ()) v
theorem forceY_eq (v : AV) (K : AV → G) : forceY v K = K v := by
  cases v with
  | agg l => exact forceL_eq forceZ_eq
  | fn f l m => exact (forceL_eq forceZ_eq).trans (forceL_eq forceZ_eq)
  | sv h z i l c => exact forceZ_eq (.sv h z i l c) K
  | int k n => exact forceZ_eq (.int k n) K
  | str s => exact forceZ_eq (.str s) K
  | hd h => exact forceZ_eq (.hd h) K
  | sl h n => exact forceZ_eq (.sl h n) K
  | ptr h n => exact forceZ_eq (.ptr h n) K
  | el h z i n => exact forceZ_eq (.el h z i n) K
  | slc h z i n => exact forceZ_eq (.slc h z i n) K
  | yld h => exact forceZ_eq (.yld h) K
  | _ => rfl
def f2Tup (l : List AV) (K : AV → G) : G := forceL forceY l fun l => K (.tup l)
def f2Iface (t : TypeId) (v : AV) (K : AV → G) : G := forceY v fun v => K (.iface t v)
def forceQ (v : AV) : FK := AV.rec (motive_1 := fun _ => FK) (motive_2 := fun _ => Unit) f0Bool f0Int f0Str f0Hd f0Sl f0Ptr f0El f0Slc f0Sv f0Yld f0Nilp f0Nils f0Nilm f0Nilf f0Nili (fun l _ => f1Agg l) (fun l _ => f2Tup l) (fun t v _ => f2Iface t v) (fun f l m _ _ => f1Fn f l m) f0Raw () (fun _ _ _ _ => ()) v
theorem forceQ_eq (v : AV) (K : AV → G) : forceQ v K = K v := by
  cases v with
  | tup l => exact forceL_eq forceY_eq
  | iface t v => exact forceY_eq v _
  | agg l => exact forceY_eq (.agg l) K
  | fn f l m => exact forceY_eq (.fn f l m) K
  | sv h z i l c => exact forceZ_eq (.sv h z i l c) K
  | int k n => exact forceZ_eq (.int k n) K
  | str s => exact forceZ_eq (.str s) K
  | hd h => exact forceZ_eq (.hd h) K
  | sl h n => exact forceZ_eq (.sl h n) K
  | ptr h n => exact forceZ_eq (.ptr h n) K
  | el h z i n => exact forceZ_eq (.el h z i n) K
  | slc h z i n => exact forceZ_eq (.slc h z i n) K
  | yld h => exact forceZ_eq (.yld h) K
  | _ => rfl
def pwNone (v : AV) (rd wr : List Nat) (A : Ans G) (T : Tab) (o : Oper) (fr : Fr) (H : Heap) (n sz : Nat) (df : List Df) (log : List (List Nat × List Nat)) (bs : Nat) (K : St → G) : G := K ⟨fr, H, n, sz, df, (rd, wr) :: log, bs⟩
def pwBad (_d : Nat) (_v : AV) (_rd _wr : List Nat) (A : Ans G) (T : Tab) (o : Oper) (fr : Fr) (H : Heap) (n sz : Nat) (df : List Df) (log : List (List Nat × List Nat)) (bs : Nat) (K : St → G) : G := A.bad
def pwGo (d : Nat) (v : AV) (rd wr : List Nat) (A : Ans G) (T : Tab) (o : Oper) (fr : Fr) (H : Heap) (n sz : Nat) (df : List Df) (log : List (List Nat × List Nat)) (bs : Nat) (K : St → G) : G := K ⟨(d, v) :: fr, H, n, sz, df, (rd, wr) :: log, bs⟩
def pwSome (d : Nat) (v : AV) (rd wr : List Nat) (A : Ans G) (T : Tab) (o : Oper) (fr : Fr) (H : Heap) (n sz : Nat) (df : List Df) (log : List (List Nat × List Nat)) (bs : Nat) (K : St → G) : G := Bool.rec (motive := fun _ => Nat → AV → List Nat → List Nat → PT) pwBad pwGo (Nat.ble (Nat.succ d) sz) d v rd wr A T o fr H n sz df log bs K
def putW (v : AV) (rd wr : List Nat) (A : Ans G) (T : Tab) (o : Oper) (fr : Fr) (H : Heap) (n sz : Nat) (df : List Df) (log : List (List Nat × List Nat)) (bs : Nat) (K : St → G) : G := Option.rec (motive := fun _ => AV → List Nat → List Nat → PT) pwNone pwSome o.dst v rd wr A T o fr H n sz df log bs K
def putQ (v : AV) (rd wr : List Nat) (A : Ans G) (T : Tab) (o : Oper) (fr : Fr) (H : Heap) (n sz : Nat) (df : List Df) (log : List (List Nat × List Nat)) (bs : Nat) (K : St → G) : G := forceQ v fun v => putW v rd wr A T o fr H n sz df log bs K
theorem putW_eq (v : AV) (rd wr : List Nat) (A : Ans G) (T : Tab) (o : Oper) (fr : Fr) (H : Heap) (n sz : Nat) (df : List Df) (log : List (List Nat × List Nat)) (bs : Nat) (K : St → G) : putW v rd wr A T o fr H n sz df log bs K = putM A o v fr H n sz df log bs rd wr K := by
  unfold putW putM
  cases o.dst with
  | none => rfl
  | some d =>
    show pwSome d v rd wr A T o fr H n sz df log bs K = _
    unfold pwSome
    simp only [Nat.blt, force_eq]
    cases Nat.ble (Nat.succ d) sz <;> rfl
theorem putQ_eq (v : AV) (rd wr : List Nat) (A : Ans G) (T : Tab) (o : Oper) (fr : Fr) (H : Heap) (n sz : Nat) (df : List Df) (log : List (List Nat × List Nat)) (bs : Nat) (K : St → G) : putQ v rd wr A T o fr H n sz df log bs K = putM A o v fr H n sz df log bs rd wr K := (forceQ_eq _ _).trans (putW_eq ..)
theorem putF_eq (v : AV) (A : Ans G) (T : Tab) (o : Oper) (fr : Fr) (H : Heap) (n sz : Nat) (df : List Df) (log : List (List Nat × List Nat)) (bs : Nat) (K : St → G) : putF A o v fr H n sz df log bs K = putM A o v fr H n sz df log bs [] [] K := by
  unfold putF putM
  cases o.dst with
  | none => rfl
  | some d => simp only [force_eq]
def hOther (A : Ans G) (T : Tab) (o : Oper) (fr : Fr) (H : Heap) (n sz : Nat) (df : List Df) (log : List (List Nat × List Nat)) (bs : Nat) (K : St → G) : G := vcRun0 A T o ⟨fr, H, n, sz, df, log, bs⟩ K
def gVal (v : AV) (A : Ans G) (T : Tab) (o : Oper) (fr : Fr) (H : Heap) (n sz : Nat) (df : List Df) (log : List (List Nat × List Nat)) (bs : Nat) (K : St → G) : G := putQ v [] [] A T o fr H n sz df log bs K
def gOb (p : Prop) (d : Decidable p) (v : AV) (A : Ans G) (T : Tab) (o : Oper) (fr : Fr) (H : Heap) (n sz : Nat) (df : List Df) (log : List (List Nat × List Nat)) (bs : Nat) (K : St → G) : G := A.ob p d (putQ v [] [] A T o fr H n sz df log bs K)
def goE (e : E) (A : Ans G) (T : Tab) (o : Oper) (fr : Fr) (H : Heap) (n sz : Nat) (df : List Df) (log : List (List Nat × List Nat)) (bs : Nat) (K : St → G) : G := E.rec (motive := fun _ => PT) hOther gVal gOb e A T o fr H n sz df log bs K
def eqI (a b : Int) : Bool := Int.rec (motive := fun _ => Int → Bool) (fun m b => Int.rec (motive := fun _ => Nat → Bool) (fun n m => Nat.beq m n) (fun _ _ => false) b m) (fun m b => Int.rec (motive := fun _ => Nat → Bool) (fun _ _ => false) (fun n m => Nat.beq m n) b m) a b
def leI (a b : Int) : Bool := Int.rec (motive := fun _ => Int → Bool) (fun m b => Int.rec (motive := fun _ => Nat → Bool) (fun n m => Nat.ble m n) (fun _ _ => false) b m) (fun m b => Int.rec (motive := fun _ => Nat → Bool) (fun _ _ => true) (fun n m => Nat.ble n m) b m) a b
def notB (b : Bool) : Bool := Bool.rec true false b
theorem notB_eq (b : Bool) : notB b = !b := by cases b <;> rfl
theorem beqD (m n : Nat) : Nat.beq m n = decide (m = n) := by
  cases h : Nat.beq m n with
  | true => have := Nat.eq_of_beq_eq_true h; simp [this]
  | false => have : m ≠ n := by (rintro rfl; rw [Nat.beq_refl] at h; cases h)
             simp [this]
theorem bleD (m n : Nat) : Nat.ble m n = decide (m ≤ n) := by
  cases h : Nat.ble m n with
  | true => have := Nat.le_of_ble_eq_true h; simp [this]
  | false => have : ¬ m ≤ n := fun e => by (rw [Nat.ble_eq_true_of_le e] at h; cases h)
             simp [this]
theorem eqI_eq (a b : Int) : eqI a b = decide (a = b) := by
  cases a with
  | ofNat m => cases b with
    | ofNat n => show Nat.beq m n = _; rw [beqD]; exact decide_eq_decide.2 ⟨fun h => by rw [h], fun h => by injection h⟩
    | negSucc n => rfl
  | negSucc m => cases b with
    | ofNat n => rfl
    | negSucc n => show Nat.beq m n = _; rw [beqD]; exact decide_eq_decide.2 ⟨fun h => by rw [h], fun h => by injection h⟩
theorem leI_eq (a b : Int) : leI a b = decide (a ≤ b) := by
  cases a with
  | ofNat m => cases b with
    | ofNat n => show Nat.ble m n = _; rw [bleD]; exact decide_eq_decide.2 ⟨fun h => Int.ofNat_le.2 h, fun h => Int.ofNat_le.1 h⟩
    | negSucc n => show false = _; symm; rw [decide_eq_false_iff_not]; change ¬ ((m : Int) ≤ Int.negSucc n); omega
  | negSucc m => cases b with
    | ofNat n => show true = _; symm; rw [decide_eq_true_eq]; change Int.negSucc m ≤ (n : Int); omega
    | negSucc n => show Nat.ble n m = _; rw [bleD, Bool.eq_iff_iff]; simp only [decide_eq_true_eq]; omega
def wrS (lim : Nat) (k : IntKind) (m : Nat) : Int := Bool.rec (motive := fun _ => Int) (k.wrap (.ofNat m)) (.ofNat m) (Nat.ble (Nat.succ m) lim)
def wrapN (k : IntKind) : Nat → Int := IntKind.rec (motive := fun _ => Nat → Int) (wrS 128 .i8) (wrS 32768 .i16) (wrS 2147483648 .i32) (wrS 9223372036854775808 .i64)
  (fun m => .ofNat (Nat.mod m 256)) (fun m => .ofNat (Nat.mod m 65536)) (fun m => .ofNat (Nat.mod m 4294967296)) (fun m => .ofNat (Nat.mod m 18446744073709551616)) k
def wrapQ (k : IntKind) (n : Int) : Int := Int.rec (motive := fun _ => IntKind → Int) (fun m k => wrapN k m) (fun m k => k.wrap (.negSucc m)) n k
theorem wrS_eq {lim : Nat} {k : IntKind} (hk : k.signed = true) (hl : (lim : Int) = 2 ^ (k.bits - 1)) (hb : (2 : Int) ^ (k.bits - 1) < 2 ^ k.bits) (m : Nat) : wrS lim k m = k.wrap (.ofNat m) := by
  unfold wrS
  cases h : Nat.ble (Nat.succ m) lim with
  | false => rfl
  | true =>
    have h := Nat.le_of_ble_eq_true h
    show (Int.ofNat m) = _
    have h1 : (Int.ofNat m) < 2 ^ (k.bits - 1) := by rw [← hl]; exact Int.ofNat_lt.2 h
    have h2 : (Int.ofNat m) % 2 ^ k.bits = Int.ofNat m := Int.emod_eq_of_lt (Int.natCast_nonneg m) (Int.lt_trans h1 hb)
    unfold IntKind.wrap
    simp only [h2, hk, Bool.true_and, decide_eq_true_eq]
    rw [if_neg (by omega)]
theorem wrapN_eq (k : IntKind) (m : Nat) : wrapN k m = k.wrap (.ofNat m) := by
  cases k with
  | i8 => exact wrS_eq rfl rfl (by decide) m
  | i16 => exact wrS_eq rfl rfl (by decide) m
  | i32 => exact wrS_eq rfl rfl (by decide) m
  | i64 => exact wrS_eq rfl rfl (by decide) m
  | _ => rfl
theorem wrapQ_eq (k : IntKind) (n : Int) : wrapQ k n = k.wrap n := by
  cases n with
  | ofNat m => exact wrapN_eq k m
  | negSucc m => rfl
theorem ofInt_nat (w m : Nat) : (BitVec.ofInt w (Int.ofNat m)).toNat = m % 2 ^ w := by
  show (BitVec.ofInt w (m : Int)).toNat = _
  rw [BitVec.ofInt_natCast]; simp
def bitQ (f : Nat → Nat → Nat) (op : BinOp) (k : IntKind) (a b : Int) : Int :=
  Int.rec (motive := fun _ => Int → IntKind → (Nat → Nat → Nat) → BinOp → Int) (fun m b k f op => Int.rec (motive := fun _ => Nat → IntKind → (Nat → Nat → Nat) → BinOp → Int) (fun n m k f _ => wrapN k (f (Nat.mod m (Nat.pow 2 k.bits)) (Nat.mod n (Nat.pow 2 k.bits)))) (fun n m k _ op => ibit op k (.ofNat m) (.negSucc n)) b m k f op) (fun m b k _ op => ibit op k (.negSucc m) b) a b k f op
theorem and_eq (k : IntKind) (a b : Int) : bitQ Nat.land .and k a b = ibit .and k a b := by
  cases a <;> cases b <;> try rfl
  rename_i m n
  show wrapN k (Nat.land (m % 2 ^ k.bits) (n % 2 ^ k.bits)) = k.wrap ((BitVec.ofInt k.bits (Int.ofNat m) &&& BitVec.ofInt k.bits (Int.ofNat n)).toNat : Nat)
  rw [wrapN_eq, BitVec.toNat_and, ofInt_nat, ofInt_nat]; rfl
theorem or_eq (k : IntKind) (a b : Int) : bitQ Nat.lor .or k a b = ibit .or k a b := by
  cases a <;> cases b <;> try rfl
  rename_i m n
  show wrapN k (Nat.lor (m % 2 ^ k.bits) (n % 2 ^ k.bits)) = k.wrap ((BitVec.ofInt k.bits (Int.ofNat m) ||| BitVec.ofInt k.bits (Int.ofNat n)).toNat : Nat)
  rw [wrapN_eq, BitVec.toNat_or, ofInt_nat, ofInt_nat]; rfl
theorem xor_eq (k : IntKind) (a b : Int) : bitQ Nat.xor .xor k a b = ibit .xor k a b := by
  cases a <;> cases b <;> try rfl
  rename_i m n
  show wrapN k (Nat.xor (m % 2 ^ k.bits) (n % 2 ^ k.bits)) = k.wrap ((BitVec.ofInt k.bits (Int.ofNat m) ^^^ BitVec.ofInt k.bits (Int.ofNat n)).toNat : Nat)
  rw [wrapN_eq, BitVec.toNat_xor, ofInt_nat, ofInt_nat]; rfl
def minN (a b : Nat) : Nat := Bool.rec (motive := fun _ => Nat) b a (Nat.ble a b)
theorem minN_eq (a b : Nat) : minN a b = min a b := by
  unfold minN
  cases h : Nat.ble a b with
  | true => have := Nat.le_of_ble_eq_true h; simp; omega
  | false => have : ¬ a ≤ b := fun e => (by rw [Nat.ble_eq_true_of_le e] at h; cases h); simp; omega
def shlQ (k : IntKind) (a b : Int) : Int := Int.rec (motive := fun _ => IntKind → Int → Int) (fun m k b => wrapN k (Nat.mul m (Nat.pow 2 (minN b.toNat k.bits)))) (fun m k b => shlI k (.negSucc m) b) a k b
theorem shlQ_eq (k : IntKind) (a b : Int) : shlQ k a b = shlI k a b := by
  cases a with
  | negSucc m => rfl
  | ofNat m =>
    show wrapN k (m * 2 ^ (minN b.toNat k.bits)) = k.wrap (Int.ofNat m * 2 ^ (min b.toNat k.bits))
    rw [wrapN_eq, minN_eq]
    congr 1
def shrQ (k : IntKind) (a b : Int) : Int := Int.rec (motive := fun _ => IntKind → Int → Int) (fun m k b => .ofNat (Nat.div m (Nat.pow 2 (minN b.toNat k.bits)))) (fun m k b => shrI k (.negSucc m) b) a k b
theorem shrQ_eq (k : IntKind) (a b : Int) : shrQ k a b = shrI k a b := by
  cases a with
  | negSucc m => rfl
  | ofNat m =>
    show Int.ofNat (m / 2 ^ (minN b.toNat k.bits)) = (Int.ofNat m).fdiv (2 ^ (min b.toNat k.bits))
    rw [minN_eq]
    have : ((2 : Int) ^ (min b.toNat k.bits)) = ((2 ^ (min b.toNat k.bits) : Nat) : Int) := by simp
    rw [this]
    exact (Int.ofNat_fdiv m _)
def obB (p : Prop) (d : Decidable p) (v : AV) : E := .ob p d v
def arQ (f : Int → Int → Int) (k k' : IntKind) (a b : Int) : E := Bool.rec (motive := fun _ => E) .no (.val (.int k (wrapQ k (f a b)))) (IntKind.same k k')
def btQ (f : IntKind → Int → Int → Int) (k k' : IntKind) (a b : Int) : E := Bool.rec (motive := fun _ => E) .no (.val (.int k (f k a b))) (IntKind.same k k')
def cmQ (b : Bool) (k k' : IntKind) : E := Bool.rec (motive := fun _ => E) .no (.val (.bool b)) (IntKind.same k k')
abbrev BT := IntKind → IntKind → Int → Int → Operand → BinOp → E
def slowQ (k k' : IntKind) (a b : Int) (yo : Operand) (op : BinOp) : E := Bool.rec (motive := fun _ => E) .no (aInt op k a b (posC yo)) (IntKind.same k k')
def abII (b : Int) (k' : IntKind) (k : IntKind) (a : Int) (op : BinOp) (yo : Operand) : E := BinOp.rec (motive := fun _ => BT)
  (fun k k' a b _ _ => arQ Int.add k k' a b) (fun k k' a b _ _ => arQ Int.sub k k' a b) (fun k k' a b _ _ => arQ Int.mul k k' a b) slowQ slowQ
  (fun k k' a b _ _ => btQ (bitQ Nat.land .and) k k' a b) (fun k k' a b _ _ => btQ (bitQ Nat.lor .or) k k' a b) (fun k k' a b _ _ => btQ (bitQ Nat.xor .xor) k k' a b)
  (fun k _ a b yo _ => Bool.rec (motive := fun _ => E) (.ob (0 ≤ b) inferInstance (.int k (shlQ k a b))) (.val (.int k (shlQ k a b))) (natC yo))
  (fun k _ a b yo _ => Bool.rec (motive := fun _ => E) (.ob (0 ≤ b) inferInstance (.int k (shrQ k a b))) (.val (.int k (shrQ k a b))) (natC yo))
  slowQ (fun k k' a b _ _ => cmQ (eqI a b) k k') (fun k k' a b _ _ => cmQ (notB (eqI a b)) k k') (fun k k' a b _ _ => cmQ (notB (leI b a)) k k') (fun k k' a b _ _ => cmQ (leI a b) k k') (fun k k' a b _ _ => cmQ (notB (leI a b)) k k') (fun k k' a b _ _ => cmQ (leI b a) k k') op k k' a b yo op
theorem abII_eq (T : Tab) (t : Nat) (op : BinOp) (k k' : IntKind) (a b : Int) (yo : Operand) : abII b k' k a op yo = aBin T op t (.int k a) (.int k' b) yo := by
  cases op with
  | shl => simp only [abII, aBin, aShift]; cases natC yo <;> simp only [shlQ_eq]
  | shr => simp only [abII, aBin, aShift]; cases natC yo <;> simp only [shrQ_eq]
  | _ =>
    simp only [abII, aBin, aInt, arQ, btQ, cmQ, slowQ, wrapQ_eq, and_eq, or_eq, xor_eq, eqI_eq, leI_eq, notB_eq]
    cases IntKind.same k k' <;> first | rfl | (simp only [E.val.injEq, AV.bool.injEq]; rw [Bool.eq_iff_iff]; simp)
abbrev BX := Tab → BinOp → Nat → AV → AV → Operand → E
def abSlow (T : Tab) (op : BinOp) (t : Nat) (x y : AV) (yo : Operand) : E := aBin T op t x y yo
def abIx (k' : IntKind) (b : Int) (k : IntKind) (a : Int) (_T : Tab) (op : BinOp) (_t : Nat) (_x _y : AV) (yo : Operand) : E := abII b k' k a op yo
def abSl2 (_k : IntKind) (_a : Int) (T : Tab) (op : BinOp) (t : Nat) (x y : AV) (yo : Operand) : E := aBin T op t x y yo
def abI (k : IntKind) (a : Int) (T : Tab) (op : BinOp) (t : Nat) (x y : AV) (yo : Operand) : E := AV.rec (motive_1 := fun _ => IntKind → Int → BX) (motive_2 := fun _ => Unit) (fun _ => abSl2) abIx (fun _ => abSl2) (fun _ => abSl2) (fun _ _ => abSl2) (fun _ _ => abSl2) (fun _ _ _ _ => abSl2) (fun _ _ _ _ => abSl2) (fun _ _ _ _ _ => abSl2) (fun _ => abSl2) abSl2 abSl2 abSl2 abSl2 abSl2 (fun _ _ => abSl2) (fun _ _ => abSl2) (fun _ _ _ => abSl2) (fun _ _ _ _ _ => abSl2) (fun _ => abSl2) () (fun _ _ _ _ => ()) y k a T op t x y yo
def aBinQ (T : Tab) (op : BinOp) (t : Nat) (x y : AV) (yo : Operand) : E := AV.rec (motive_1 := fun _ => BX) (motive_2 := fun _ => Unit) (fun _ => abSlow) abI (fun _ => abSlow) (fun _ => abSlow) (fun _ _ => abSlow) (fun _ _ => abSlow) (fun _ _ _ _ => abSlow) (fun _ _ _ _ => abSlow) (fun _ _ _ _ _ => abSlow) (fun _ => abSlow) abSlow abSlow abSlow abSlow abSlow (fun _ _ => abSlow) (fun _ _ => abSlow) (fun _ _ _ => abSlow) (fun _ _ _ _ _ => abSlow) (fun _ => abSlow) () (fun _ _ _ _ => ()) x T op t x y yo
theorem aBinQ_eq (T : Tab) (op : BinOp) (t : Nat) (x y : AV) (yo : Operand) : aBinQ T op t x y yo = aBin T op t x y yo := by
  cases x with
  | int k a =>
    cases y with
    | int k' b => exact abII_eq T t op k k' a b yo
    | _ => rfl
  | _ => rfl
def elBool (v : AV) (N : E) (S0 : Bool → E) : E := AV.rec (motive_1 := fun _ => E → (Bool → E) → E) (motive_2 := fun _ => Unit) (fun x0 _ S0 => S0 x0) (fun _ _ N _ => N) (fun _ N _ => N) (fun _ N _ => N) (fun _ _ N _ => N) (fun _ _ N _ => N) (fun _ _ _ _ N _ => N) (fun _ _ _ _ N _ => N) (fun _ _ _ _ _ N _ => N) (fun _ N _ => N) (fun N _ => N) (fun N _ => N) (fun N _ => N) (fun N _ => N) (fun N _ => N) (fun _ _ N _ => N) (fun _ _ N _ => N) (fun _ _ _ N _ => N) (fun _ _ _ _ _ N _ => N) (fun _ N _ => N) () (fun _ _ _ _ => ()) v N S0
def elInt (v : AV) (N : E) (S0 : IntKind → Int → E) : E := AV.rec (motive_1 := fun _ => E → (IntKind → Int → E) → E) (motive_2 := fun _ => Unit) (fun _ N _ => N) (fun x0 x1 _ S0 => S0 x0 x1) (fun _ N _ => N) (fun _ N _ => N) (fun _ _ N _ => N) (fun _ _ N _ => N) (fun _ _ _ _ N _ => N) (fun _ _ _ _ N _ => N) (fun _ _ _ _ _ N _ => N) (fun _ N _ => N) (fun N _ => N) (fun N _ => N) (fun N _ => N) (fun N _ => N) (fun N _ => N) (fun _ _ N _ => N) (fun _ _ N _ => N) (fun _ _ _ N _ => N) (fun _ _ _ _ _ N _ => N) (fun _ N _ => N) () (fun _ _ _ _ => ()) v N S0
def elStr (v : AV) (N : E) (S0 : ByteArray → E) : E := AV.rec (motive_1 := fun _ => E → (ByteArray → E) → E) (motive_2 := fun _ => Unit) (fun _ N _ => N) (fun _ _ N _ => N) (fun x0 _ S0 => S0 x0) (fun _ N _ => N) (fun _ _ N _ => N) (fun _ _ N _ => N) (fun _ _ _ _ N _ => N) (fun _ _ _ _ N _ => N) (fun _ _ _ _ _ N _ => N) (fun _ N _ => N) (fun N _ => N) (fun N _ => N) (fun N _ => N) (fun N _ => N) (fun N _ => N) (fun _ _ N _ => N) (fun _ _ N _ => N) (fun _ _ _ N _ => N) (fun _ _ _ _ _ N _ => N) (fun _ N _ => N) () (fun _ _ _ _ => ()) v N S0
def elTup (v : AV) (N : E) (S0 : List AV → E) : E := AV.rec (motive_1 := fun _ => E → (List AV → E) → E) (motive_2 := fun _ => Unit) (fun _ N _ => N) (fun _ _ N _ => N) (fun _ N _ => N) (fun _ N _ => N) (fun _ _ N _ => N) (fun _ _ N _ => N) (fun _ _ _ _ N _ => N) (fun _ _ _ _ N _ => N) (fun _ _ _ _ _ N _ => N) (fun _ N _ => N) (fun N _ => N) (fun N _ => N) (fun N _ => N) (fun N _ => N) (fun N _ => N) (fun _ _ N _ => N) (fun x0 _ _ S0 => S0 x0) (fun _ _ _ N _ => N) (fun _ _ _ _ _ N _ => N) (fun _ N _ => N) () (fun _ _ _ _ => ()) v N S0
def elAgg (v : AV) (N : E) (S0 : List AV → E) : E := AV.rec (motive_1 := fun _ => E → (List AV → E) → E) (motive_2 := fun _ => Unit) (fun _ N _ => N) (fun _ _ N _ => N) (fun _ N _ => N) (fun _ N _ => N) (fun _ _ N _ => N) (fun _ _ N _ => N) (fun _ _ _ _ N _ => N) (fun _ _ _ _ N _ => N) (fun _ _ _ _ _ N _ => N) (fun _ N _ => N) (fun N _ => N) (fun N _ => N) (fun N _ => N) (fun N _ => N) (fun N _ => N) (fun x0 _ _ S0 => S0 x0) (fun _ _ N _ => N) (fun _ _ _ N _ => N) (fun _ _ _ _ _ N _ => N) (fun _ N _ => N) () (fun _ _ _ _ => ()) v N S0
def elPE (v : AV) (N : E) (S0 : Nat → Nat → E) (S1 : Nat → Nat → Nat → Nat → E) : E := AV.rec (motive_1 := fun _ => E → (Nat → Nat → E) → (Nat → Nat → Nat → Nat → E) → E) (motive_2 := fun _ => Unit) (fun _ N _ _ => N) (fun _ _ N _ _ => N) (fun _ N _ _ => N) (fun _ N _ _ => N) (fun _ _ N _ _ => N) (fun x0 x1 _ S0 _ => S0 x0 x1) (fun x0 x1 x2 x3 _ _ S1 => S1 x0 x1 x2 x3) (fun _ _ _ _ N _ _ => N) (fun _ _ _ _ _ N _ _ => N) (fun _ N _ _ => N) (fun N _ _ => N) (fun N _ _ => N) (fun N _ _ => N) (fun N _ _ => N) (fun N _ _ => N) (fun _ _ N _ _ => N) (fun _ _ N _ _ => N) (fun _ _ _ N _ _ => N) (fun _ _ _ _ _ N _ _ => N) (fun _ N _ _ => N) () (fun _ _ _ _ => ()) v N S0 S1
def elSeq (v : AV) (N : E) (S0 : Nat → Nat → E) (S1 : Nat → Nat → Nat → Nat → E) (S2 : Nat → Nat → Nat → Nat → Option Nat → E) (S3 : Nat → Nat → E) : E := AV.rec (motive_1 := fun _ => E → (Nat → Nat → E) → (Nat → Nat → Nat → Nat → E) → (Nat → Nat → Nat → Nat → Option Nat → E) → (Nat → Nat → E) → E) (motive_2 := fun _ => Unit) (fun _ N _ _ _ _ => N) (fun _ _ N _ _ _ _ => N) (fun _ N _ _ _ _ => N) (fun _ N _ _ _ _ => N) (fun x0 x1 _ S0 _ _ _ => S0 x0 x1) (fun x0 x1 _ _ _ _ S3 => S3 x0 x1) (fun _ _ _ _ N _ _ _ _ => N) (fun x0 x1 x2 x3 _ _ S1 _ _ => S1 x0 x1 x2 x3) (fun x0 x1 x2 x3 x4 _ _ _ S2 _ => S2 x0 x1 x2 x3 x4) (fun _ N _ _ _ _ => N) (fun N _ _ _ _ => N) (fun N _ _ _ _ => N) (fun N _ _ _ _ => N) (fun N _ _ _ _ => N) (fun N _ _ _ _ => N) (fun _ _ N _ _ _ _ => N) (fun _ _ N _ _ _ _ => N) (fun _ _ _ N _ _ _ _ => N) (fun _ _ _ _ _ N _ _ _ _ => N) (fun _ N _ _ _ _ => N) () (fun _ _ _ _ => ()) v N S0 S1 S2 S3
def elLen (v : AV) (N : E) (S0 : ByteArray → E) (S1 : Nat → Nat → E) (S2 : E) (S3 : Nat → Nat → Nat → Nat → Option Nat → E) : E := AV.rec (motive_1 := fun _ => E → (ByteArray → E) → (Nat → Nat → E) → (E) → (Nat → Nat → Nat → Nat → Option Nat → E) → E) (motive_2 := fun _ => Unit) (fun _ N _ _ _ _ => N) (fun _ _ N _ _ _ _ => N) (fun x0 _ S0 _ _ _ => S0 x0) (fun _ N _ _ _ _ => N) (fun x0 x1 _ _ S1 _ _ => S1 x0 x1) (fun _ _ N _ _ _ _ => N) (fun _ _ _ _ N _ _ _ _ => N) (fun _ _ _ _ N _ _ _ _ => N) (fun x0 x1 x2 x3 x4 _ _ _ _ S3 => S3 x0 x1 x2 x3 x4) (fun _ N _ _ _ _ => N) (fun N _ _ _ _ => N) (fun _ _ _ S2 _ => S2) (fun N _ _ _ _ => N) (fun N _ _ _ _ => N) (fun N _ _ _ _ => N) (fun _ _ N _ _ _ _ => N) (fun _ _ N _ _ _ _ => N) (fun _ _ _ N _ _ _ _ => N) (fun _ _ _ _ _ N _ _ _ _ => N) (fun _ N _ _ _ _ => N) () (fun _ _ _ _ => ()) v N S0 S1 S2 S3
def tkIS (k : TK) (N : E) (S0 : IntKind → E) (S1 : E) : E := TK.rec (motive := fun _ => E → (IntKind → E) → (E) → E) (fun x0 _ S0 _ => S0 x0) (fun N _ _ => N) (fun _ _ S1 => S1) (fun _ _ _ N _ _ => N) (fun _ _ N _ _ => N) (fun _ N _ _ => N) (fun _ N _ _ => N) (fun _ _ _ N _ _ => N) (fun _ N _ _ => N) (fun N _ _ => N) k N S0 S1
def tkInt (k : TK) (N : E) (S0 : IntKind → E) : E := TK.rec (motive := fun _ => E → (IntKind → E) → E) (fun x0 _ S0 => S0 x0) (fun N _ => N) (fun N _ => N) (fun _ _ _ N _ => N) (fun _ _ N _ => N) (fun _ N _ => N) (fun _ N _ => N) (fun _ _ _ N _ => N) (fun _ N _ => N) (fun N _ => N) k N S0
def tkStr (k : TK) (N : E) (S0 : E) : E := TK.rec (motive := fun _ => E → (E) → E) (fun _ N _ => N) (fun N _ => N) (fun _ S0 => S0) (fun _ _ _ N _ => N) (fun _ _ N _ => N) (fun _ N _ => N) (fun _ N _ => N) (fun _ _ _ N _ => N) (fun _ N _ => N) (fun N _ => N) k N S0
def tkStruct (k : TK) (N : E) (S0 : List (Nat × Nat) → List LK → List Bool → E) : E := TK.rec (motive := fun _ => E → (List (Nat × Nat) → List LK → List Bool → E) → E) (fun _ N _ => N) (fun N _ => N) (fun N _ => N) (fun x0 x1 x2 _ S0 => S0 x0 x1 x2) (fun _ _ N _ => N) (fun _ N _ => N) (fun _ N _ => N) (fun _ _ _ N _ => N) (fun _ N _ => N) (fun N _ => N) k N S0
def tkSA (k : TK) (N : E) (S0 : Nat → E) (S1 : Nat → Nat → E) : E := TK.rec (motive := fun _ => E → (Nat → E) → (Nat → Nat → E) → E) (fun _ N _ _ => N) (fun N _ _ => N) (fun N _ _ => N) (fun _ _ _ N _ _ => N) (fun x0 x1 _ _ S1 => S1 x0 x1) (fun x0 _ S0 _ => S0 x0) (fun _ N _ _ => N) (fun _ _ _ N _ _ => N) (fun _ N _ _ => N) (fun N _ _ => N) k N S0 S1
def tkSS (k : TK) (N : E) (S0 : E) (S1 : Nat → E) : E := TK.rec (motive := fun _ => E → (E) → (Nat → E) → E) (fun _ N _ _ => N) (fun N _ _ => N) (fun _ S0 _ => S0) (fun _ _ _ N _ _ => N) (fun _ _ N _ _ => N) (fun x0 _ _ S1 => S1 x0) (fun _ N _ _ => N) (fun _ _ _ N _ _ => N) (fun _ N _ _ => N) (fun N _ _ => N) k N S0 S1
def elO {β : Type} (o : Option β) (N : E) (S : β → E) : E := Option.rec (motive := fun _ => E) N S o
def decB {p : Prop} (b : Bool) (h : b = true ↔ p) : Decidable p := Bool.rec (motive := fun b => (b = true ↔ p) → Decidable p) (fun h => .isFalse fun e => Bool.noConfusion (h.2 e)) (fun h => .isTrue (h.1 rfl)) b h
def rngB (n : Int) (len : Nat) : Bool := Int.rec (motive := fun _ => Nat → Bool) (fun m len => Nat.ble (Nat.succ m) len) (fun _ _ => false) n len
theorem rngB_iff (n : Int) (len : Nat) : rngB n len = true ↔ (0 ≤ n ∧ n < len) := by
  cases n with
  | ofNat m =>
    show Nat.ble (Nat.succ m) len = true ↔ _
    rw [bleD, decide_eq_true_eq]
    exact ⟨fun h => ⟨Int.natCast_nonneg m, Int.ofNat_lt.2 h⟩, fun h => Int.ofNat_lt.1 h.2⟩
  | negSucc m =>
    show false = true ↔ _
    exact ⟨fun h => (by cases h), fun h => (by omega)⟩
def obR (n : Int) (len : Nat) (v : AV) : E := .ob (0 ≤ n ∧ n < len) (decB (rngB n len) (rngB_iff n len)) v
theorem obR_eq (n : Int) (len : Nat) (v : AV) (d : Decidable (0 ≤ n ∧ n < (len : Int))) : obR n len v = .ob (0 ≤ n ∧ n < len) d v := by
  unfold obR; congr 1; exact Subsingleton.elim _ _
def sizeR (s : ByteArray) : Nat := lenR s.data.toList
theorem sizeR_eq (s : ByteArray) : sizeR s = s.size := by simp [sizeR]
def byteQ (s : ByteArray) (n : Int) : Int := .ofNat (Option.rec (motive := fun _ => Nat) 0 (fun b => b.toNat) (nth s.data.toList n.toNat))
theorem byteQ_eq (s : ByteArray) (n : Int) : byteQ s n = byteAt s n := by
  unfold byteQ byteAt
  rw [nth_eq]
  have : s[n.toNat]? = s.data.toList[n.toNat]? := by
    by_cases h : n.toNat < s.size
    · rw [getElem?_pos s n.toNat h, List.getElem?_eq_getElem (by simpa using h)]; rfl
    · rw [getElem?_neg s n.toNat h, List.getElem?_eq_none (by simpa using h)]
  rw [this]
  cases s.data.toList[n.toNat]? <;> rfl
def xBin (T : Tab) (fr : Fr) (op : BinOp) (t : Nat) (x y : Operand) : E := elO (ev fr x) .no fun v => elO (ev fr y) .no fun u => aBinQ T op t v u y
def nilFn (f : Fn) (l m : List AV) : E := match f with | .func g => .val (.fn (.func g) l m) | _ => .no
def nilV (v : AV) : E := AV.rec (motive_1 := fun _ => E) (motive_2 := fun _ => Unit) (fun _ => .no) (fun _ _ => .no) (fun _ => .no) (fun _ => .no) (fun _ _ => .no) (fun h k => .val (.ptr h k)) (fun h z i k => .val (.el h z i k)) (fun _ _ _ _ => .no) (fun _ _ _ _ _ => .no) (fun _ => .no) .no .no .no .no .no (fun _ _ => .no) (fun _ _ => .no) (fun x0 x1 _ => (fun t v => .val (.iface t v)) x0 x1) (fun x0 x1 x2 _ _ => nilFn x0 x1 x2) (fun _ => .no) () (fun _ _ _ _ => ()) v
def xNil (fr : Fr) (x : Operand) : E := elO (ev fr x) .no nilV
def xUn (fr : Fr) (op : UnOp) (x : Operand) : E := elO (ev fr x) .no (UnOp.rec (motive := fun _ => AV → E) (fun v => elInt v .no fun k n => .val (.int k (wrapQ k (Int.neg n)))) (fun _ => .no) (fun v => elBool v .no fun b => .val (.bool (notB b))) (fun _ => .no) op)
def xConv (T : Tab) (fr : Fr) (s d : TypeId) (x : Operand) : E := tkIS (kindOf T s) .no (fun _ => tkInt (kindOf T d) .no fun k => elO (ev fr x) .no fun v => elInt v .no fun _ n => .val (.int k (wrapQ k n))) (tkStr (kindOf T d) .no (elO (ev fr x) .no fun v => elStr v .no fun s => .val (.str s)))
def xMkI (T : Tab) (fr : Fr) (t : TypeId) (x : Operand) : E := match T t, ev fr x with
    | some ⟨_, _, _, .iface _⟩, _ => .no
    | some _, some v => .val (.iface t v)
    | _, _ => .no
def xMkF (fr : Fr) (f : Fn) (l m : Array Operand) : E := elO (evs fr l.toList) .no fun vs => elO (evs fr m.toList) .no fun us => .val (.fn f vs us)
def xFA (T : Tab) (fr : Fr) (t : TypeId) (x : Operand) (i : Nat) : E := tkStruct (kindOf T t) .no fun fs _ _ => elO (nth fs i) .no fun p => elO (ev fr x) .no fun v => elPE v .no (fun h k => .val (.ptr h (k + p.1))) (fun h z j c => .val (.el h z j (c + p.1)))
def xFld (T : Tab) (fr : Fr) (t : TypeId) (x : Operand) (i : Nat) : E := tkStruct (kindOf T t) .no fun fs _ ag => elO (ev fr x) .no fun v => elAgg v .no fun l => fldA fs ag i l
def xExt (fr : Fr) (x : Operand) (i : Nat) : E := elO (ev fr x) .no fun v => elTup v .no fun l => elO (nth l i) .no fun v => .val v
def xIA (T : Tab) (fr : Fr) (t : TypeId) (x i : Operand) : E := elO (ev fr x) .no fun v => elO (ev fr i) .no fun u => elInt u .no fun _ n =>
    tkSA (kindOf T t) .no (fun e => elO (T e) .no fun r => elSeq v .no (fun h len => obR n len (.el h r.size n.toNat 0)) (fun h off len _ => obR n len (.ptr h (off + n.toNat * r.size)))
        (fun h z i0 len _ => Bool.rec (motive := fun _ => E) .no (obR n len (.el h z (i0 + n.toNat) 0)) (Nat.beq r.size z)) (fun _ _ => .no))
      (fun m e => elO (T e) .no fun r => elSeq v .no (fun _ _ => .no) (fun _ _ _ _ => .no) (fun _ _ _ _ _ => .no) (fun h k => obR n m (.ptr h (k + n.toNat * r.size))))
def xIx (T : Tab) (fr : Fr) (t : TypeId) (x i : Operand) : E := tkStr (kindOf T t) .no (elO (ev fr x) .no fun v => elStr v .no fun s => elO (ev fr i) .no fun u => elInt u .no fun _ n =>
    .ob (0 ≤ n ∧ n < s.size) (decB (rngB n (sizeR s)) ((rngB_iff n (sizeR s)).trans (by rw [sizeR_eq]))) (.int .u8 (byteQ s n)))
def lenV (T : Tab) (fr : Fr) (x : Operand) (t : TypeId) : E := elO (ev fr x) .no fun v => tkSS (kindOf T t) .no
    (elLen v .no (fun s => .val (.int .i64 (.ofNat (sizeR s)))) (fun _ _ => .no) .no (fun _ _ _ _ _ => .no))
    (fun _ => elLen v .no (fun _ => .no) (fun _ n => .val (.int .i64 (.ofNat n))) (.val (.int .i64 0)) (fun _ _ _ n _ => .val (.int .i64 (.ofNat n))))
def xLen (T : Tab) (fr : Fr) (xs : Array Operand) (ts : Array TypeId) : E := match xs.toList, ts.toList with
    | [x], [t] => lenV T fr x t
    | _, _ => .no
def Same (T : Tab) (fr : Fr) (op : Op) (e : E) : Prop := e = .no ∨ aOpA T fr op = e
theorem same_of {T : Tab} {fr : Fr} {op : Op} {e : E} (h : aOp T fr op = e) : Same T fr op e := by
  cases e with
  | no => exact .inl rfl
  | val v => right; simp only [aOpA, h]
  | ob p d v => right; simp only [aOpA, h]
theorem same_3 {T : Tab} {fr : Fr} {op : Op} {e : E} (h1 : aOp T fr op = .no) (h2 : aOp2 T fr op = .no) (h : aOp3 T fr op = e) : Same T fr op e := by
  right; simp only [aOpA, h1, h2, h]
theorem same_2 {T : Tab} {fr : Fr} {op : Op} {e : E} (h1 : aOp T fr op = .no) (h : aOp2 T fr op = e) : Same T fr op e := by
  cases e with
  | no => exact .inl rfl
  | val v => right; simp only [aOpA, h1, h]
  | ob p d v => right; simp only [aOpA, h1, h]
theorem xBin_same (T : Tab) (fr : Fr) (op : BinOp) (t : Nat) (x y : Operand) (u : TypeId) : Same T fr (.binOp op t x y u) (xBin T fr op t x y) := by
  refine same_of ?_
  unfold xBin
  simp only [aOp, aBinQ_eq]
  cases ev fr x with
  | none => rfl
  | some v => cases ev fr y <;> rfl
theorem xNil_same (T : Tab) (fr : Fr) (x : Operand) : Same T fr (.nilCheck x) (xNil fr x) := by
  refine same_of ?_
  unfold xNil
  simp only [aOp]
  cases ev fr x with
  | none => rfl
  | some v =>
    cases v with
    | fn f l m => cases f <;> rfl
    | _ => rfl
theorem xUn_same (T : Tab) (fr : Fr) (op : UnOp) (t : TypeId) (x : Operand) : Same T fr (.unOp op t x) (xUn fr op x) := by
  refine same_of ?_
  unfold xUn
  simp only [aOp]
  cases ev fr x with
  | none => rfl
  | some v =>
    cases op with
    | neg =>
      cases v with
      | int k n => show E.val (.int k (k.wrap (-n))) = E.val (.int k (wrapQ k (Int.neg n))); rw [wrapQ_eq]; rfl
      | _ => rfl
    | not =>
      cases v with
      | bool b => cases b <;> rfl
      | _ => rfl
    | _ => cases v <;> rfl
theorem xConv_same (T : Tab) (fr : Fr) (s d : TypeId) (x : Operand) : Same T fr (.convert s d x) (xConv T fr s d x) := by
  refine same_of ?_
  unfold xConv
  simp only [aOp, wrapQ_eq]
  cases kindOf T s with
  | int k0 =>
    cases kindOf T d with
    | int k =>
      cases ev fr x with
      | none => rfl
      | some v => cases v <;> rfl
    | _ => rfl
  | str =>
    cases kindOf T d with
    | str =>
      cases ev fr x with
      | none => rfl
      | some v => cases v <;> rfl
    | _ => rfl
  | _ => rfl
theorem xMkI_same (T : Tab) (fr : Fr) (t : TypeId) (x : Operand) : Same T fr (.makeInterface t x) (xMkI T fr t x) := same_of rfl
theorem xMkF_same (T : Tab) (fr : Fr) (f : Fn) (l m : Array Operand) : Same T fr (.makeFunc f l m) (xMkF fr f l m) := by
  refine same_of ?_
  unfold xMkF
  simp only [aOp]
  cases evs fr l.toList with
  | none => rfl
  | some v => cases evs fr m.toList <;> rfl
theorem xFA_same (T : Tab) (fr : Fr) (t : TypeId) (x : Operand) (i : Nat) : Same T fr (.fieldAddr t x i) (xFA T fr t x i) := by
  refine same_of ?_
  unfold xFA
  simp only [aOp]
  cases kindOf T t with
  | struct fs fl ag =>
    cases ev fr x with
    | none => cases hn : nth fs i <;> simp only [tkStruct, elO, hn]
    | some v =>
      cases hn : nth fs i with
      | none => cases v <;> simp only [tkStruct, elO, hn]
      | some p => cases v <;> simp only [tkStruct, elO, elPE, hn]
  | _ => rfl
theorem xFld_same (T : Tab) (fr : Fr) (t : TypeId) (x : Operand) (i : Nat) : Same T fr (.field t x i) (xFld T fr t x i) := by
  refine same_of ?_
  unfold xFld
  simp only [aOp]
  cases kindOf T t with
  | struct fs fl ag =>
    cases ev fr x with
    | none => simp only [tkStruct, elO]
    | some v => cases v <;> simp only [tkStruct, elO, elAgg]
  | _ => rfl
theorem xExt_same (T : Tab) (fr : Fr) (x : Operand) (i : Nat) : Same T fr (.extract x i) (xExt fr x i) := by
  refine same_of ?_
  unfold xExt
  simp only [aOp]
  cases ev fr x with
  | none => rfl
  | some v =>
    cases v with
    | tup l => simp only [elO, elTup]; cases nth l i <;> rfl
    | _ => rfl
theorem xIA_same (T : Tab) (fr : Fr) (t : TypeId) (x i : Operand) : Same T fr (.indexAddr t x i) (xIA T fr t x i) := by
  unfold xIA
  cases hx : ev fr x with
  | none => exact .inl rfl
  | some v =>
  cases hi : ev fr i with
  | none => exact .inl rfl
  | some u =>
  cases u with
  | int ki n =>
    cases hk : kindOf T t with
    | slice e =>
      cases hT : T e with
      | none => exact .inl (by simp only [elO, elInt, tkSA, hT])
      | some r =>
        obtain ⟨ag, sz, zz, kk⟩ := r
        cases v with
        | sl h len => exact same_of (by simp only [aOp, hx, hi, hk, hT, elO, elInt, tkSA, elSeq, obR_eq])
        | slc h off len cap => exact same_2 (by simp only [aOp, hx, hi, hk]) (by simp only [aOp2, hx, hi, hk, hT, elO, elInt, tkSA, elSeq, obR_eq])
        | sv h z i0 len c =>
          cases hb : Nat.beq sz z with
          | true => exact same_3 (by simp only [aOp, hx, hi, hk]) (by simp only [aOp2, hx, hi, hk]) (by simp only [aOp3, szOf, hx, hi, hk, hT, elO, elInt, tkSA, elSeq, obR_eq, hb])
          | false => exact .inl (by simp only [elO, elInt, tkSA, elSeq, hT, hb])
        | _ => exact .inl (by simp only [elO, elInt, tkSA, elSeq, hT])
    | arr m e =>
      cases hT : T e with
      | none => exact .inl (by simp only [elO, elInt, tkSA, hT])
      | some r =>
        obtain ⟨ag, sz, zz, kk⟩ := r
        cases v with
        | ptr h k => exact same_of (by simp only [aOp, hx, hi, hk, hT, elO, elInt, tkSA, elSeq, obR_eq])
        | _ => exact .inl (by simp only [elO, elInt, tkSA, elSeq, hT])
    | _ => exact .inl rfl
  | _ => exact .inl rfl
theorem xIx_same (T : Tab) (fr : Fr) (t : TypeId) (x i : Operand) : Same T fr (.index t x i) (xIx T fr t x i) := by
  refine same_of ?_
  unfold xIx
  simp only [aOp]
  cases kindOf T t with
  | str =>
    cases ev fr x with
    | none => rfl
    | some v =>
      cases v with
      | str s =>
        cases ev fr i with
        | none => rfl
        | some u =>
          cases u with
          | int k n =>
            simp only [tkStr, elO, elStr, elInt, byteQ_eq]
            congr 1
            exact Subsingleton.elim _ _
          | _ => rfl
      | _ => rfl
  | _ => rfl
theorem xLen_same (T : Tab) (fr : Fr) (xs : Array Operand) (ts : Array TypeId) : Same T fr (.call { callee := .builtin .len, args := xs, argTypes := ts }) (xLen T fr xs ts) := by
  unfold xLen
  split
  · rename_i x t h1 h2
    unfold lenV
    cases hx : ev fr x with
    | none => exact .inl rfl
    | some v =>
      cases hk : kindOf T t with
      | str =>
        cases v with
        | str s => exact same_of (by simp only [aOp, h1, h2, hx, hk, elO, tkSS, elLen, sizeR_eq]; rfl)
        | _ => exact .inl rfl
      | slice e =>
        cases v with
        | sl h n => exact same_of (by simp only [aOp, h1, h2, hx, hk, elO, tkSS, elLen]; rfl)
        | nils => exact same_of (by simp only [aOp, h1, h2, hx, hk, elO, tkSS, elLen])
        | sv h z i n c => exact same_3 (by simp only [aOp, h1, h2, hx, hk]) (by simp only [aOp2, h1, h2, hx, hk]) (by simp only [aOp3, h1, h2, hx, hk, elO, tkSS, elLen]; rfl)
        | _ => exact .inl rfl
      | _ => exact .inl rfl
  · exact .inl rfl
def hNilCheck (x : Operand) (A : Ans G) (T : Tab) (o : Oper) (fr : Fr) (H : Heap) (n sz : Nat) (df : List Df) (log : List (List Nat × List Nat)) (bs : Nat) (K : St → G) : G := goE (xNil fr x) A T o fr H n sz df log bs K
def hUn (op : UnOp) (_t : TypeId) (x : Operand) (A : Ans G) (T : Tab) (o : Oper) (fr : Fr) (H : Heap) (n sz : Nat) (df : List Df) (log : List (List Nat × List Nat)) (bs : Nat) (K : St → G) : G := goE (xUn fr op x) A T o fr H n sz df log bs K
def hConv (s d : TypeId) (x : Operand) (A : Ans G) (T : Tab) (o : Oper) (fr : Fr) (H : Heap) (n sz : Nat) (df : List Df) (log : List (List Nat × List Nat)) (bs : Nat) (K : St → G) : G := goE (xConv T fr s d x) A T o fr H n sz df log bs K
def hMkI (t : TypeId) (x : Operand) (A : Ans G) (T : Tab) (o : Oper) (fr : Fr) (H : Heap) (n sz : Nat) (df : List Df) (log : List (List Nat × List Nat)) (bs : Nat) (K : St → G) : G := goE (xMkI T fr t x) A T o fr H n sz df log bs K
def hMkF (f : Fn) (l m : Array Operand) (A : Ans G) (T : Tab) (o : Oper) (fr : Fr) (H : Heap) (n sz : Nat) (df : List Df) (log : List (List Nat × List Nat)) (bs : Nat) (K : St → G) : G := goE (xMkF fr f l m) A T o fr H n sz df log bs K
def hFA (t : TypeId) (x : Operand) (i : Nat) (A : Ans G) (T : Tab) (o : Oper) (fr : Fr) (H : Heap) (n sz : Nat) (df : List Df) (log : List (List Nat × List Nat)) (bs : Nat) (K : St → G) : G := goE (xFA T fr t x i) A T o fr H n sz df log bs K
def hFld (t : TypeId) (x : Operand) (i : Nat) (A : Ans G) (T : Tab) (o : Oper) (fr : Fr) (H : Heap) (n sz : Nat) (df : List Df) (log : List (List Nat × List Nat)) (bs : Nat) (K : St → G) : G := goE (xFld T fr t x i) A T o fr H n sz df log bs K
def hExt (x : Operand) (i : Nat) (A : Ans G) (T : Tab) (o : Oper) (fr : Fr) (H : Heap) (n sz : Nat) (df : List Df) (log : List (List Nat × List Nat)) (bs : Nat) (K : St → G) : G := goE (xExt fr x i) A T o fr H n sz df log bs K
def hIA (t : TypeId) (x i : Operand) (A : Ans G) (T : Tab) (o : Oper) (fr : Fr) (H : Heap) (n sz : Nat) (df : List Df) (log : List (List Nat × List Nat)) (bs : Nat) (K : St → G) : G := goE (xIA T fr t x i) A T o fr H n sz df log bs K
def hIx (t : TypeId) (x i : Operand) (A : Ans G) (T : Tab) (o : Oper) (fr : Fr) (H : Heap) (n sz : Nat) (df : List Df) (log : List (List Nat × List Nat)) (bs : Nat) (K : St → G) : G := goE (xIx T fr t x i) A T o fr H n sz df log bs K
def hBin (op : BinOp) (t : TypeId) (x y : Operand) (_u : TypeId) (A : Ans G) (T : Tab) (o : Oper) (fr : Fr) (H : Heap) (n sz : Nat) (df : List Df) (log : List (List Nat × List Nat)) (bs : Nat) (K : St → G) : G := goE (xBin T fr op t x y) A T o fr H n sz df log bs K
theorem goE_eq {e : E} {A : Ans G} {T : Tab} {o : Oper} {fr : Fr} (he : Same T fr o.op e) {H : Heap} {n sz : Nat} {df : List Df} {log : List (List Nat × List Nat)} {bs : Nat} {K : St → G}
    (hd : vcRun0 A T o ⟨fr, H, n, sz, df, log, bs⟩ K = (match aOpA T fr o.op with
      | .val v => putM A o v fr H n sz df log bs [] [] K
      | .ob p dp v => A.ob p dp <| putM A o v fr H n sz df log bs [] [] K
      | .no => vcRow A T o ⟨fr, H, n, sz, df, log, bs⟩ K)) :
    goE e A T o fr H n sz df log bs K = vcRun0 A T o ⟨fr, H, n, sz, df, log, bs⟩ K := by
  rcases he with rfl | he
  · rfl
  cases e with
  | no => rfl
  | val v =>
    rw [hd]
    simp only [he]
    exact putQ_eq ..
  | ob p d v =>
    rw [hd]
    simp only [he]
    exact congrArg _ (putQ_eq ..)
def hmBad (A : Ans G) (T : Tab) (o : Oper) (fr : Fr) (H : Heap) (n sz : Nat) (df : List Df) (log : List (List Nat × List Nat)) (bs : Nat) (K : St → G) : G := A.bad
def hmGo (v : AV) (A : Ans G) (T : Tab) (o : Oper) (fr : Fr) (H : Heap) (n sz : Nat) (df : List Df) (log : List (List Nat × List Nat)) (bs : Nat) (K : St → G) : G := putW v [] [] A T o fr H n sz df log bs K
def hMove (x : Operand) (A : Ans G) (T : Tab) (o : Oper) (fr : Fr) (H : Heap) (n sz : Nat) (df : List Df) (log : List (List Nat × List Nat)) (bs : Nat) (K : St → G) : G := Option.rec (motive := fun _ => PT) hmBad hmGo (ev fr x) A T o fr H n sz df log bs K
inductive LR where
  | no
  | one (h : Nat) (v : AV)
  | many (h : Nat) (v : AV)
def lrOpt (h : Nat) (v : Option AV) : LR := Option.rec (motive := fun _ => LR) .no (fun v => .one h v) v
def ldOne (cs : List AV) (h off sz : Nat) : LR := Bool.rec (motive := fun _ => LR) .no (lrOpt h (nth cs off)) (Nat.beq sz 1)
def ldMany (cs : List AV) (h off sz : Nat) : LR := Bool.rec (motive := fun _ => LR) .no (.many h (.agg (takeR sz (dropR off cs)))) (Nat.ble (Nat.add off sz) (lenR cs))
def ldBox (r : TRow) (h off : Nat) (cs : List AV) : LR := Bool.rec (motive := fun _ => List AV → Nat → Nat → Nat → LR) ldOne ldMany r.agg cs h off r.size
def ldRow (r : TRow) (h z i c z' : Nat) (cs : List AV) : LR := Bool.rec (motive := fun _ => LR) .no (ldBox r h (Nat.add (Nat.mul i z) c) cs) (Nat.beq z z')
def ldPtr (h off : Nat) (T : Tab) (H : Heap) (t : TypeId) : LR := match look H h, T t with
  | some (.box _ cs), some r => ldBox r h off cs
  | _, _ => .no
def ldEl (h z i c : Nat) (T : Tab) (H : Heap) (t : TypeId) : LR := match look H h, T t with
  | some (.row _ z' cs _), some r => ldRow r h z i c z' cs
  | _, _ => .no
def ldNo (_T : Tab) (_H : Heap) (_t : TypeId) : LR := .no
def ldV (v : AV) (T : Tab) (H : Heap) (t : TypeId) : LR := AV.rec (motive_1 := fun _ => Tab → Heap → TypeId → LR) (motive_2 := fun _ => Unit) (fun _ => ldNo) (fun _ _ => ldNo) (fun _ => ldNo) (fun _ => ldNo) (fun _ _ => ldNo) ldPtr ldEl (fun _ _ _ _ => ldNo) (fun _ _ _ _ _ => ldNo) (fun _ => ldNo) ldNo ldNo ldNo ldNo ldNo (fun _ _ => ldNo) (fun _ _ => ldNo) (fun _ _ _ => ldNo) (fun _ _ _ _ _ => ldNo) (fun _ => ldNo) () (fun _ _ _ _ => ()) v T H t
def ldA (T : Tab) (fr : Fr) (H : Heap) (t : TypeId) (x : Operand) : LR := Option.rec (motive := fun _ => Tab → Heap → TypeId → LR) ldNo ldV (ev fr x) T H t
def hlOne (h : Nat) (v : AV) (A : Ans G) (T : Tab) (o : Oper) (fr : Fr) (H : Heap) (n sz : Nat) (df : List Df) (log : List (List Nat × List Nat)) (bs : Nat) (K : St → G) : G := putW v [h] [] A T o fr H n sz df log bs K
def hlMany (h : Nat) (v : AV) (A : Ans G) (T : Tab) (o : Oper) (fr : Fr) (H : Heap) (n sz : Nat) (df : List Df) (log : List (List Nat × List Nat)) (bs : Nat) (K : St → G) : G := putQ v [h] [] A T o fr H n sz df log bs K
def goL (r : LR) (A : Ans G) (T : Tab) (o : Oper) (fr : Fr) (H : Heap) (n sz : Nat) (df : List Df) (log : List (List Nat × List Nat)) (bs : Nat) (K : St → G) : G := LR.rec (motive := fun _ => PT) hOther hlOne hlMany r A T o fr H n sz df log bs K
def hLoad (t : TypeId) (x : Operand) (A : Ans G) (T : Tab) (o : Oper) (fr : Fr) (H : Heap) (n sz : Nat) (df : List Df) (log : List (List Nat × List Nat)) (bs : Nat) (K : St → G) : G := goL (ldA T fr H t x) A T o fr H n sz df log bs K
def hAlNo (_e : TypeId) (A : Ans G) (T : Tab) (o : Oper) (fr : Fr) (H : Heap) (n sz : Nat) (df : List Df) (log : List (List Nat × List Nat)) (bs : Nat) (K : St → G) : G := A.bad
def hAlGo (r : TRow) (e : TypeId) (A : Ans G) (T : Tab) (o : Oper) (fr : Fr) (H : Heap) (n sz : Nat) (df : List Df) (log : List (List Nat × List Nat)) (bs : Nat) (K : St → G) : G := numK n fun n => putW (.ptr n 0) [] [n] A T o fr ((n, .box e r.zero) :: H) (n + 1) sz df log bs K
def hAlloc (e : TypeId) (A : Ans G) (T : Tab) (o : Oper) (fr : Fr) (H : Heap) (n sz : Nat) (df : List Df) (log : List (List Nat × List Nat)) (bs : Nat) (K : St → G) : G := Option.rec (motive := fun _ => TypeId → PT) hAlNo hAlGo (T e) e A T o fr H n sz df log bs K
inductive SR where
  | no
  | to (h : Nat) (r : Res)
  | sp (h : Nat) (e : Nat) (cs : List AV)
  | rw (h : Nat) (e z : Nat) (cs : List AV) (rc : Option Nat)
def stPtr (h off : Nat) (v : AV) (T : Tab) (H : Heap) (t : TypeId) : SR := match T t, look H h with
  | some r, some (.box e cs) => match rawA v, allR (cellsOf v) leafA && (Nat.beq (lenR (cellsOf v)) r.size && Nat.ble (off + r.size) (lenR cs)) with
    | false, true => .sp h e (splice cs off (cellsOf v))
    | _, _ => .no
  | _, _ => .no
def stEl (h z i c : Nat) (v : AV) (T : Tab) (H : Heap) (t : TypeId) : SR := match T t, look H h with
  | some r, some (.row e z' cs rc) => match rawA v, Nat.beq z z' && (allR (cellsOf v) leafA && (Nat.beq (lenR (cellsOf v)) r.size && Nat.ble (i * z + c + r.size) (lenR cs))) with
    | false, true => .rw h e z' (splice cs (i * z + c) (cellsOf v)) rc
    | _, _ => .no
  | _, _ => .no
def stNo (_v : AV) (_T : Tab) (_H : Heap) (_t : TypeId) : SR := .no
def stV (p v : AV) (T : Tab) (H : Heap) (t : TypeId) : SR := AV.rec (motive_1 := fun _ => AV → Tab → Heap → TypeId → SR) (motive_2 := fun _ => Unit) (fun _ => stNo) (fun _ _ => stNo) (fun _ => stNo) (fun _ => stNo) (fun _ _ => stNo) stPtr stEl (fun _ _ _ _ => stNo) (fun _ _ _ _ _ => stNo) (fun _ => stNo) stNo stNo stNo stNo stNo (fun _ _ => stNo) (fun _ _ => stNo) (fun _ _ _ => stNo) (fun _ _ _ _ _ => stNo) (fun _ => stNo) () (fun _ _ _ _ => ()) p v T H t
def stA (T : Tab) (fr : Fr) (H : Heap) (t : TypeId) (x y : Operand) : SR := match ev fr x, ev fr y with
  | some p, some v => stV p v T H t
  | _, _ => .no
def hsTo (_h : Nat) (_r : Res) (A : Ans G) (T : Tab) (o : Oper) (fr : Fr) (H : Heap) (n sz : Nat) (df : List Df) (log : List (List Nat × List Nat)) (bs : Nat) (K : St → G) : G := hOther A T o fr H n sz df log bs K
def hsSp (h e : Nat) (cs : List AV) (A : Ans G) (T : Tab) (o : Oper) (fr : Fr) (H : Heap) (n sz : Nat) (df : List Df) (log : List (List Nat × List Nat)) (bs : Nat) (K : St → G) : G := spine cs fun cs => putW (.raw undef) [] [h] A T o fr ((h, .box e cs) :: H) n sz df log bs K
def hsRw (h e z : Nat) (cs : List AV) (rc : Option Nat) (A : Ans G) (T : Tab) (o : Oper) (fr : Fr) (H : Heap) (n sz : Nat) (df : List Df) (log : List (List Nat × List Nat)) (bs : Nat) (K : St → G) : G := spine cs fun cs => putW (.raw undef) [] [h] A T o fr ((h, .row e z cs rc) :: H) n sz df log bs K
def goS (r : SR) (A : Ans G) (T : Tab) (o : Oper) (fr : Fr) (H : Heap) (n sz : Nat) (df : List Df) (log : List (List Nat × List Nat)) (bs : Nat) (K : St → G) : G := SR.rec (motive := fun _ => PT) hOther hsTo hsSp hsRw r A T o fr H n sz df log bs K
def hStore (t : TypeId) (x y : Operand) (A : Ans G) (T : Tab) (o : Oper) (fr : Fr) (H : Heap) (n sz : Nat) (df : List Df) (log : List (List Nat × List Nat)) (bs : Nat) (K : St → G) : G := goS (stA T fr H t x y) A T o fr H n sz df log bs K
def hcFn (g : FuncId) (l m us : List AV) (A : Ans G) (T : Tab) (o : Oper) (fr : Fr) (H : Heap) (n sz : Nat) (df : List Df) (log : List (List Nat × List Nat)) (bs : Nat) (K : St → G) : G := spine (appR l (appR us m)) fun vs => A.call g vs o ⟨fr, H, n, sz, df, log, bs⟩ K
def hcV (f : Operand) (xs : Array Operand) (_ts : Array TypeId) (A : Ans G) (T : Tab) (o : Oper) (fr : Fr) (H : Heap) (n sz : Nat) (df : List Df) (log : List (List Nat × List Nat)) (bs : Nat) (K : St → G) : G := match ev fr f, evs fr xs.toList with
  | some (.fn (.func g) l m), some us => hcFn g l m us A T o fr H n sz df log bs K
  | _, _ => hOther A T o fr H n sz df log bs K
def hcI (_x : Operand) (_m : String) (_xs : Array Operand) (_ts : Array TypeId) (A : Ans G) (T : Tab) (o : Oper) (fr : Fr) (H : Heap) (n sz : Nat) (df : List Df) (log : List (List Nat × List Nat)) (bs : Nat) (K : St → G) : G := hOther A T o fr H n sz df log bs K
def hcB (b : Builtin) (xs : Array Operand) (ts : Array TypeId) (A : Ans G) (T : Tab) (o : Oper) (fr : Fr) (H : Heap) (n sz : Nat) (df : List Df) (log : List (List Nat × List Nat)) (bs : Nat) (K : St → G) : G := match b with
  | .len => goE (xLen T fr xs ts) A T o fr H n sz df log bs K
  | _ => hOther A T o fr H n sz df log bs K
def hCall (c : Call) (A : Ans G) (T : Tab) (o : Oper) (fr : Fr) (H : Heap) (n sz : Nat) (df : List Df) (log : List (List Nat × List Nat)) (bs : Nat) (K : St → G) : G := Callee.rec (motive := fun _ => Array Operand → Array TypeId → PT) hcV hcI hcB c.callee c.args c.argTypes A T o fr H n sz df log bs K
def opRun (fr : Fr) (H : Heap) (n sz : Nat) (df : List Df) (log : List (List Nat × List Nat)) (bs : Nat) (A : Ans G) (T : Tab) (o : Oper) (K : St → G) : G := Op.rec (motive := fun _ => PT) hMove hMove (fun _ _ _ => hOther) hAlloc (fun _ _ => hOther) (fun _ _ => hOther) (fun _ _ _ => hOther) (fun _ _ _ _ => hOther) hLoad hStore (fun _ => hOther) (fun _ => hOther) hNilCheck hBin hUn hConv (fun _ _ => hOther) hMkI hMkF (fun _ _ => hOther) (fun _ _ => hOther) (fun _ _ _ => hOther) (fun _ _ _ _ _ => hOther) hFA hFld hIA hIx (fun _ _ _ _ => hOther) (fun _ _ _ _ => hOther) (fun _ _ _ => hOther) (fun _ _ _ _ => hOther) (fun _ _ => hOther) (fun _ _ => hOther) (fun _ => hOther) (fun _ _ _ _ => hOther) hExt hCall (fun _ => hOther) (fun _ => hOther) (fun _ => hOther) (fun _ _ => hOther) (fun _ _ _ => hOther) (fun _ _ => hOther) o.op A T o fr H n sz df log bs K
def opNone (A : Ans G) (T : Tab) (_all : Array Oper) (o : Oper) (s : St) (K : St → G) : G := St.rec (motive := fun _ => Ans G → Tab → Oper → (St → G) → G) opRun s A T o K
def opSome (_g : Nat × Bool) (A : Ans G) (T : Tab) (all : Array Oper) (o : Oper) (s : St) (K : St → G) : G := vcOp A T all o s K
def vcOpQ (A : Ans G) (T : Tab) (all : Array Oper) (o : Oper) (s : St) (K : St → G) : G := Option.rec (motive := fun _ => Ans G → Tab → Array Oper → Oper → St → (St → G) → G) opNone opSome o.guard A T all o s K
theorem ldA_eq {A : Ans G} {T : Tab} {o : Oper} {fr : Fr} {H : Heap} {n sz : Nat} {df : List Df} {log : List (List Nat × List Nat)} {bs : Nat} {K : St → G} {t : TypeId} {x : Operand} (ho : o.op = .load t x) :
    goL (ldA T fr H t x) A T o fr H n sz df log bs K = vcRun0 A T o ⟨fr, H, n, sz, df, log, bs⟩ K := by
  have hbox : ∀ {h off : Nat} {e : TypeId} {cs : List AV} {r : TRow}, ev fr x = some (.ptr h off) → look H h = some (.box e cs) → T t = some r → goL (ldBox r h off cs) A T o fr H n sz df log bs K = vcRun0 A T o ⟨fr, H, n, sz, df, log, bs⟩ K := by
    intro h off e cs r h1 h2 h3
    obtain ⟨ag, k, zz, kk⟩ := r
    have e0 : vcRun0 A T o ⟨fr, H, n, sz, df, log, bs⟩ K = (match readA ag k cs off with
          | some v => putM A o v fr H n sz df log bs [h] [] K
          | none => A.bad) := by simp only [vcRun0, ho, h1, h2, h3] <;> rfl
    cases ag with
    | true =>
      show goL (ldMany cs h off k) A T o fr H n sz df log bs K = _
      unfold ldMany
      cases hb : Nat.ble (Nat.add off k) (lenR cs) with
      | false => rfl
      | true =>
        have hb' : Nat.ble (off + k) (lenR cs) = true := hb
        rw [e0]; simp only [readA, hb']
        show hlMany h _ A T o fr H n sz df log bs K = _
        unfold hlMany
        exact putQ_eq ..
    | false =>
      show goL (ldOne cs h off k) A T o fr H n sz df log bs K = _
      unfold ldOne
      cases hb : Nat.beq k 1 with
      | false => rfl
      | true =>
        cases hn : nth cs off with
        | none => rfl
        | some v =>
          rw [e0]; simp only [readA, hb, hn]
          show hlOne h _ A T o fr H n sz df log bs K = _
          unfold hlOne
          exact putW_eq ..
  have hrow : ∀ {h z i c z' e : Nat} {cs : List AV} {rc : Option Nat} {r : TRow}, ev fr x = some (.el h z i c) → look H h = some (.row e z' cs rc) → T t = some r → goL (ldRow r h z i c z' cs) A T o fr H n sz df log bs K = vcRun0 A T o ⟨fr, H, n, sz, df, log, bs⟩ K := by
    intro h z i c z' e cs rc r h1 h2 h3
    obtain ⟨ag, k, zz, kk⟩ := r
    have e0 : vcRun0 A T o ⟨fr, H, n, sz, df, log, bs⟩ K = (match Nat.beq z z', readA ag k cs (i * z + c) with
          | true, some v => putM A o v fr H n sz df log bs [h] [] K
          | _, _ => A.stop o ⟨fr, H, n, sz, df, log, bs⟩ K) := by simp only [vcRun0, ho, h1, h2, h3] <;> rfl
    unfold ldRow
    cases hz : Nat.beq z z' with
    | false => rfl
    | true =>
    cases ag with
    | true =>
      show goL (ldMany cs h (i * z + c) k) A T o fr H n sz df log bs K = _
      unfold ldMany
      cases hb : Nat.ble (Nat.add (i * z + c) k) (lenR cs) with
      | false => rfl
      | true =>
        have hb' : Nat.ble (i * z + c + k) (lenR cs) = true := hb
        rw [e0]; simp only [readA, hb', hz]
        show hlMany h _ A T o fr H n sz df log bs K = _
        unfold hlMany
        exact putQ_eq ..
    | false =>
      show goL (ldOne cs h (i * z + c) k) A T o fr H n sz df log bs K = _
      unfold ldOne
      cases hb : Nat.beq k 1 with
      | false => rfl
      | true =>
        cases hn : nth cs (i * z + c) with
        | none => rfl
        | some v =>
          rw [e0]; simp only [readA, hb, hn, hz]
          show hlOne h _ A T o fr H n sz df log bs K = _
          unfold hlOne
          exact putW_eq ..
  unfold ldA
  cases h1 : ev fr x with
  | none => rfl
  | some v =>
    show goL (ldV v T H t) A T o fr H n sz df log bs K = _
    cases v with
    | ptr h off =>
      show goL (ldPtr h off T H t) A T o fr H n sz df log bs K = _
      unfold ldPtr
      split
      · rename_i h2 h3; exact hbox h1 h2 h3
      · rfl
    | el h z i c =>
      show goL (ldEl h z i c T H t) A T o fr H n sz df log bs K = _
      unfold ldEl
      split
      · rename_i h2 h3; exact hrow h1 h2 h3
      · rfl
    | _ => rfl
theorem stA_eq {A : Ans G} {T : Tab} {o : Oper} {fr : Fr} {H : Heap} {n sz : Nat} {df : List Df} {log : List (List Nat × List Nat)} {bs : Nat} {K : St → G} {t : TypeId} {x y : Operand} (ho : o.op = .store t x y) :
    goS (stA T fr H t x y) A T o fr H n sz df log bs K = vcRun0 A T o ⟨fr, H, n, sz, df, log, bs⟩ K := by
  unfold stA
  split
  · rename_i p v h1 h2
    cases p with
    | ptr h off =>
      show goS (stPtr h off v T H t) A T o fr H n sz df log bs K = _
      unfold stPtr
      split
      · rename_i r e cs h3 h4
        obtain ⟨ag, k, zz, kk⟩ := r
        split
        · rename_i h5 h6
          have e0 : vcRun0 A T o ⟨fr, H, n, sz, df, log, bs⟩ K = spine (splice cs off (cellsOf v)) fun cs => putM A o (.raw undef) fr ((h, .box e cs) :: H) n sz df log bs [] [h] K := by
            simp only [allR_eq, lenR_eq] at h6
            simp only [vcRun0, ho, h1, h2, h3, h4, h5, h6] <;> rfl
          rw [e0]
          show hsSp h e (splice cs off (cellsOf v)) A T o fr H n sz df log bs K = _
          unfold hsSp
          congr 1
          funext cs
          exact putW_eq ..
        · rfl
      · rfl
    | el h z i c =>
      show goS (stEl h z i c v T H t) A T o fr H n sz df log bs K = _
      unfold stEl
      split
      · rename_i r e z' cs rc h3 h4
        obtain ⟨ag, k, zz, kk⟩ := r
        split
        · rename_i h5 h6
          have e0 : vcRun0 A T o ⟨fr, H, n, sz, df, log, bs⟩ K = spine (splice cs (i * z + c) (cellsOf v)) fun cs => putM A o (.raw undef) fr ((h, .row e z' cs rc) :: H) n sz df log bs [] [h] K := by
            simp only [allR_eq, lenR_eq] at h6
            simp only [vcRun0, ho, h1, h2, h3, h4, h5, h6] <;> rfl
          rw [e0]
          show hsRw h e z' (splice cs (i * z + c) (cellsOf v)) rc A T o fr H n sz df log bs K = _
          unfold hsRw
          congr 1
          funext cs
          exact putW_eq ..
        · rfl
      · rfl
    | _ => rfl
  · rfl
theorem opRun_eq {A : Ans G} {T : Tab} {o : Oper} {fr : Fr} {H : Heap} {n sz : Nat} {df : List Df} {log : List (List Nat × List Nat)} {bs : Nat} {K : St → G} : opRun fr H n sz df log bs A T o K = vcRun0 A T o ⟨fr, H, n, sz, df, log, bs⟩ K := by
  have dflt : (vcRun0 A T o ⟨fr, H, n, sz, df, log, bs⟩ K = (match aOpA T fr o.op with
      | .val v => putM A o v fr H n sz df log bs [] [] K
      | .ob p dp v => A.ob p dp <| putM A o v fr H n sz df log bs [] [] K
      | .no => vcRow A T o ⟨fr, H, n, sz, df, log, bs⟩ K)) ∨ True := .inr trivial
  clear dflt
  unfold opRun
  cases ho : o.op with
  | move x0 =>
    show Option.rec (motive := fun _ => PT) hmBad hmGo (ev fr x0) A T o fr H n sz df log bs K = _
    cases hx : ev fr x0 with
    | none => simp only [vcRun0, ho, hx]; rfl
    | some v => simp only [vcRun0, ho, hx]; exact (putW_eq ..).trans (putF_eq (T := T) ..).symm
  | assign x0 =>
    show Option.rec (motive := fun _ => PT) hmBad hmGo (ev fr x0) A T o fr H n sz df log bs K = _
    cases hx : ev fr x0 with
    | none => simp only [vcRun0, ho, hx]; rfl
    | some v => simp only [vcRun0, ho, hx]; exact (putW_eq ..).trans (putF_eq (T := T) ..).symm
  | pick x0 x1 x2 => rfl
  | alloc x0 =>
    show Option.rec (motive := fun _ => TypeId → PT) hAlNo hAlGo (T x0) x0 A T o fr H n sz df log bs K = _
    cases hx : T x0 with
    | none => simp only [vcRun0, ho, hx]; rfl
    | some r =>
      obtain ⟨ag, k, zz, kk⟩ := r
      simp only [vcRun0, ho, hx]
      show (numK n fun n => putW _ _ _ _ _ _ _ _ _ _ _ _ _ _) = _
      rw [numK_eq, putW_eq, putN, A.num_eq]
  | box x0 x1 => rfl
  | build x0 x1 => rfl
  | buildSlice x0 x1 x2 => rfl
  | insert x0 x1 x2 x3 => rfl
  | load x0 x1 => exact ldA_eq ho
  | store x0 x1 x2 => exact stA_eq ho
  | ready x0 => rfl
  | waits x0 => rfl
  | nilCheck x0 => exact goE_eq (by rw [ho]; exact xNil_same ..) (by simp only [vcRun0, ho] <;> rfl)
  | binOp x0 x1 x2 x3 x4 => exact goE_eq (by rw [ho]; exact xBin_same ..) (by simp only [vcRun0, ho] <;> rfl)
  | unOp x0 x1 x2 => exact goE_eq (by rw [ho]; exact xUn_same ..) (by simp only [vcRun0, ho] <;> rfl)
  | convert x0 x1 x2 => exact goE_eq (by rw [ho]; exact xConv_same ..) (by simp only [vcRun0, ho] <;> rfl)
  | sliceToArrayPointer x0 x1 => rfl
  | makeInterface x0 x1 => exact goE_eq (by rw [ho]; exact xMkI_same ..) (by simp only [vcRun0, ho] <;> rfl)
  | makeFunc x0 x1 x2 => exact goE_eq (by rw [ho]; exact xMkF_same ..) (by simp only [vcRun0, ho] <;> rfl)
  | makeMap x0 x1 => rfl
  | makeChan x0 x1 => rfl
  | makeSlice x0 x1 x2 => rfl
  | slice x0 x1 x2 x3 x4 => rfl
  | fieldAddr x0 x1 x2 => exact goE_eq (by rw [ho]; exact xFA_same ..) (by simp only [vcRun0, ho] <;> rfl)
  | field x0 x1 x2 => exact goE_eq (by rw [ho]; exact xFld_same ..) (by simp only [vcRun0, ho] <;> rfl)
  | indexAddr x0 x1 x2 => exact goE_eq (by rw [ho]; exact xIA_same ..) (by simp only [vcRun0, ho] <;> rfl)
  | index x0 x1 x2 => exact goE_eq (by rw [ho]; exact xIx_same ..) (by simp only [vcRun0, ho] <;> rfl)
  | lookup x0 x1 x2 x3 => rfl
  | mapUpdate x0 x1 x2 x3 => rfl
  | mapEntry x0 x1 x2 => rfl
  | entryStore x0 x1 x2 x3 => rfl
  | range x0 x1 => rfl
  | next x0 x1 => rfl
  | entry x0 => rfl
  | typeAssert x0 x1 x2 x3 => rfl
  | extract x0 x1 => exact goE_eq (by rw [ho]; exact xExt_same ..) (by simp only [vcRun0, ho] <;> rfl)
  | call c =>
    obtain ⟨f, xs, ts⟩ := c
    cases f with
    | value f =>
      show hcV f xs ts A T o fr H n sz df log bs K = _
      unfold hcV
      split
      · rename_i g l m us h1 h2
        simp only [vcRun0, ho, h1, h2, hcFn, appR_eq]
      · rfl
    | invoke r m => rfl
    | builtin b =>
      cases b with
      | len => exact goE_eq (by rw [ho]; exact xLen_same ..) (by simp only [vcRun0, ho] <;> rfl)
      | _ => rfl
  | go x0 => rfl
  | defer x0 => rfl
  | panic x0 => rfl
  | send x0 x1 => rfl
  | recv x0 x1 x2 => rfl
  | select x0 x1 => rfl
theorem vcOpQ_eq {A : Ans G} (hA : Std A) {T : Tab} {all : Array Oper} {o : Oper} {s : St} {K : St → G} : vcOpQ A T all o s K = vcOp A T all o s K := by
  unfold vcOpQ
  cases hg : o.guard with
  | some g => rfl
  | none =>
    obtain ⟨fr, H, n, sz, df, log, bs⟩ := s
    show opRun fr H n sz df log bs A T o K = _
    rw [opRun_eq]
    simp only [vcOp, hg, vcRun, hA.pre]
def vcOpsQ (A : Ans G) (T : Tab) (all : Array Oper) (l : List Oper) : St → (St → G) → G := List.rec (motive := fun _ => St → (St → G) → G) (fun s K => K s) (fun o _ ih s K => vcOpQ A T all o s fun s => ih s K) l
theorem vcOpsQ_eq {A : Ans G} (hA : Std A) (T : Tab) (all : Array Oper) (l : List Oper) (s : St) (K : St → G) : vcOpsQ A T all l s K = vcOps A T all l s K := by
  induction l generalizing s K with
  | nil => rfl
  | cons o l ih =>
    show vcOpQ A T all o s (fun s => vcOpsQ A T all l s K) = _
    simp only [ih, vcOpQ_eq hA]; rfl
abbrev DT := Ans G → Tab → Array Oper → Oper → (St → (St → G) → G) → (St → G) → St → G
def odPlain (A : Ans G) (T : Tab) (all : Array Oper) (o : Oper) (ih : St → (St → G) → G) (K : St → G) (s : St) : G := vcOpQ A T all o s fun s => ih s K
def odDefer (c : Call) (A : Ans G) (_T : Tab) (_all : Array Oper) (o : Oper) (ih : St → (St → G) → G) (K : St → G) (s : St) : G := match A.dfr, o.guard, o.dst, s with
      | true, none, none, ⟨fr, H, n, sz, df, log, bs⟩ => match c.callee with
        | .value f => match ev fr f, evs fr c.args.toList with
          | some (.fn (.func g) first cap), some us => spine (first ++ (us ++ cap)) fun vs => ih ⟨fr, H, n, sz, .call g vs :: df, log, bs⟩ K
          | _, _ => A.bad
        | _ => A.bad
      | _, _, _, _ => A.bad
def vcOpsDQ (A : Ans G) (T : Tab) (all : Array Oper) (l : List Oper) : St → (St → G) → G := List.rec (motive := fun _ => St → (St → G) → G) (fun s K => K s) (fun o _ ih s K => Op.rec (motive := fun _ => DT) (fun _ => odPlain) (fun _ => odPlain) (fun _ _ _ => odPlain) (fun _ => odPlain) (fun _ _ => odPlain) (fun _ _ => odPlain) (fun _ _ _ => odPlain) (fun _ _ _ _ => odPlain) (fun _ _ => odPlain) (fun _ _ _ => odPlain) (fun _ => odPlain) (fun _ => odPlain) (fun _ => odPlain) (fun _ _ _ _ _ => odPlain) (fun _ _ _ => odPlain) (fun _ _ _ => odPlain) (fun _ _ => odPlain) (fun _ _ => odPlain) (fun _ _ _ => odPlain) (fun _ _ => odPlain) (fun _ _ => odPlain) (fun _ _ _ => odPlain) (fun _ _ _ _ _ => odPlain) (fun _ _ _ => odPlain) (fun _ _ _ => odPlain) (fun _ _ _ => odPlain) (fun _ _ _ => odPlain) (fun _ _ _ _ => odPlain) (fun _ _ _ _ => odPlain) (fun _ _ _ => odPlain) (fun _ _ _ _ => odPlain) (fun _ _ => odPlain) (fun _ _ => odPlain) (fun _ => odPlain) (fun _ _ _ _ => odPlain) (fun _ _ => odPlain) (fun _ => odPlain) (fun _ => odPlain) odDefer (fun _ => odPlain) (fun _ _ => odPlain) (fun _ _ _ => odPlain) (fun _ _ => odPlain) o.op A T all o ih K s) l
theorem vcOpsDQ_eq {A : Ans G} (hA : Std A) (T : Tab) (all : Array Oper) (l : List Oper) (s : St) (K : St → G) : vcOpsDQ A T all l s K = vcOpsD A T all l s K := by
  induction l generalizing s K with
  | nil => rfl
  | cons o l ih =>
    have ih' : vcOpsDQ A T all l = vcOpsD A T all l := by funext s K; exact ih s K
    rw [vcOpsD_cons]
    show (Op.rec (motive := fun _ => DT) (fun _ => odPlain) (fun _ => odPlain) (fun _ _ _ => odPlain) (fun _ => odPlain) (fun _ _ => odPlain) (fun _ _ => odPlain) (fun _ _ _ => odPlain) (fun _ _ _ _ => odPlain) (fun _ _ => odPlain) (fun _ _ _ => odPlain) (fun _ => odPlain) (fun _ => odPlain) (fun _ => odPlain) (fun _ _ _ _ _ => odPlain) (fun _ _ _ => odPlain) (fun _ _ _ => odPlain) (fun _ _ => odPlain) (fun _ _ => odPlain) (fun _ _ _ => odPlain) (fun _ _ => odPlain) (fun _ _ => odPlain) (fun _ _ _ => odPlain) (fun _ _ _ _ _ => odPlain) (fun _ _ _ => odPlain) (fun _ _ _ => odPlain) (fun _ _ _ => odPlain) (fun _ _ _ => odPlain) (fun _ _ _ _ => odPlain) (fun _ _ _ _ => odPlain) (fun _ _ _ => odPlain) (fun _ _ _ _ => odPlain) (fun _ _ => odPlain) (fun _ _ => odPlain) (fun _ => odPlain) (fun _ _ _ _ => odPlain) (fun _ _ => odPlain) (fun _ => odPlain) (fun _ => odPlain) odDefer (fun _ => odPlain) (fun _ _ => odPlain) (fun _ _ _ => odPlain) (fun _ _ => odPlain) o.op A T all o (vcOpsDQ A T all l) K s : G) = _
    rw [ih']
    have pl : vcOpQ A T all o s (fun s => vcOpsD A T all l s K) = vcOp A T all o s (fun s => vcOpsD A T all l s K) := vcOpQ_eq hA
    cases o.op <;> first | exact pl | rfl
def cdSkip (Q : Exit → St → G) (s : St) : G := Q .normal s
def cdReg (A : Ans G) (T : Tab) (ops : Array Oper) (draw : Bool) (Q : Exit → St → G) (s : St) : G := match s with
    | ⟨fr, H, n, sz, df, _, b⟩ => match draw with
      | true => vcOpsQ A T ops ops.toList ⟨fr, H, n, sz, df, [], b⟩ (regQ A ops true Q)
      | false => vcOpsDQ A T ops ops.toList ⟨fr, H, n, sz, df, [], b⟩ (Q .normal)
def cdCond (A : Ans G) (c : Operand) (X Y : (Exit → St → G) → St → G) (Q : Exit → St → G) (s : St) : G := match c, s with
    | .tmp t, ⟨fr, H, n, sz, df, log, b⟩ => match look fr t with
      | some (.bool v) => A.bc v (X Q ⟨fr, H, n, sz, df, log, b⟩) (Y Q ⟨fr, H, n, sz, df, log, b⟩)
      | _ => A.bad
    | .const (.bool v), s => A.bc v (X Q s) (Y Q s)
    | _, _ => A.bad
def cdScope (A : Ans G) (b : Code) (X : (Exit → St → G) → St → G) (Q : Exit → St → G) (s : St) : G := match noGoto b with
    | true => X (scopeQ A Q) s
    | false => A.scope X b Q s
def vcCodeQ (A : Ans G) (T : Tab) (c : Code) : (Exit → St → G) → St → G := Code.rec (motive := fun _ => (Exit → St → G) → St → G)
  cdSkip (fun _ ops draw => cdReg A T ops draw) (fun _ _ ihx ihy Q s => ihx (seqQ (ihy Q) Q) s) (fun c _ _ ihx ihy => cdCond A c ihx ihy) (fun id _ ih Q s => ih (blockQ id Q) s)
  (fun b ih Q s => A.loop ih b Q s) (fun f ps as b _ ihb Q s => A.range f ps as ihb b Q s) (fun i Q s => Q (.exit i) s) (fun b ih => cdScope A b ih) (fun _ => cdSkip) (fun l Q s => Q (.goto l) s) (fun Q s => Q .ret s) (fun _ _ _ => A.bad) c
theorem vcCodeQ_eq' {A : Ans G} (hA : Std A) {T : Tab} (hT : ∀ {b x y}, A.bc b x y = (match b with | true => x | false => y)) (c : Code) : vcCodeQ A T c = vcCode A T c := by
  induction c with
  | seq x y ihx ihy =>
    funext Q s
    show vcCodeQ A T x (seqQ (vcCodeQ A T y Q) Q) s = _
    rw [ihx, ihy]; rfl
  | region id ops draw =>
    funext Q s
    obtain ⟨fr, H, n, sz, df, log, b⟩ := s
    cases draw with
    | true => exact vcOpsQ_eq hA _ _ _ _ _
    | false => exact vcOpsDQ_eq hA _ _ _ _ _
  | cond c x y ihx ihy =>
    funext Q s
    show cdCond A c (vcCodeQ A T x) (vcCodeQ A T y) Q s = _
    rw [ihx, ihy, vcCode_cond]
    unfold cdCond
    cases c with
    | tmp t =>
      obtain ⟨fr, H, n, sz, df, log, b⟩ := s
      simp only
      cases hl : look fr t with
      | none => rfl
      | some v =>
        cases v with
        | bool v =>
          simp only [hT]
          cases v with
          | true => exact (setB_eq (K := fun fr => vcCode A T x Q ⟨fr, H, n, sz, df, log, b⟩) hl).symm
          | false => exact (setB_eq (K := fun fr => vcCode A T y Q ⟨fr, H, n, sz, df, log, b⟩) hl).symm
        | _ => rfl
    | const v => cases v <;> rfl
    | global g => rfl
    | func g => rfl
  | block id b ih =>
    funext Q s
    show vcCodeQ A T b (blockQ id Q) s = _
    rw [ih]; rfl
  | loop b ih =>
    funext Q s
    show A.loop (vcCodeQ A T b) b Q s = _
    rw [ih]; rfl
  | rangeFunc f ps as b iha ihb =>
    funext Q s
    show A.range f ps as (vcCodeQ A T b) b Q s = _
    rw [ihb]; rfl
  | scope b ih =>
    funext Q s
    show cdScope A b (vcCodeQ A T b) Q s = _
    rw [ih]; rfl
  | _ => rfl
end
end Go.SX
-- SQUEEZED
