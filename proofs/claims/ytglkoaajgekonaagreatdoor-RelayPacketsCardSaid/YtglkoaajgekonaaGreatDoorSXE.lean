/- SX, part E: the table of types, and the operations that only compute. -/
import Derived.Test.YtglkoaajgekonaaGreatDoorSXA
import Derived.Laws.StructEq
import Derived.Laws.Tables
import Derived.Laws.CopyRow
import Derived.Stop.Asserts
namespace Go.SX
noncomputable section
inductive TK where
 | int (k : IntKind) | bool | str
 | struct (fs : List (Nat × Nat)) (fl : List LK) (ag : List Bool)
 | arr (n e : Nat)
 | slice (e : Nat)
 | ptr (e : Nat)
 | map (k e : Nat) (fl : List LK)
 | iface (l : List Nat)
 | other
def memNs (t : Nat) (l : List Nat) : Bool := List.rec (motive := fun _ => Bool) false (fun x _ ih => Bool.rec ih true (Nat.beq x t)) l
theorem memNs_ok {t : Nat} : ∀ {l : List Nat}, memNs t l = true → t ∈ l
 | [], h => by cases h
 | x :: l, h => by
  change (Bool.rec (memNs t l) true (Nat.beq x t) : Bool) = true at h
  cases hb : Nat.beq x t with
  | true => have := Nat.eq_of_beq_eq_true hb; subst this; exact List.mem_cons_self
  | false => rw [hb] at h; exact List.mem_cons_of_mem _ (memNs_ok h)
structure TRow where
 agg : Bool
 size : Nat
 zero : List AV
 k : TK
abbrev Tab := Nat → Option TRow
def isAggD : TypeDesc → Bool
 | .struct _ | .array _ _ => true
 | _ => false
def KindOK (P : Program) : TK → TypeDesc → Prop
 | .int k, d => d = .int k
 | .bool, d => d = .bool
 | .str, d => d = .string
 | .struct fs _ ag, d => ∃ fields : Array Field, d = .struct fields ∧ (fields.size = fs.length ∧ ∀ (i : Nat) (b : Bool), ag[i]? = some b → ∃ (f : Field) (d' : TypeDesc), fields[i]? = some f ∧ P.underlying f.type = some d' ∧ isAggD d' = b) ∧
   ∀ (i off sz : Nat), fs[i]? = some (off, sz) → ∃ (f : Field) (i' : TypeInfo), fields[i]? = some f ∧ f.offset = off ∧ P.info? f.type = some i' ∧ i'.size = sz ∧ sz ≠ 0
 | .arr n e, d => d = .array n e
 | .slice e, d => d = .slice e
 | .ptr e, d => ∃ (i : TypeInfo), d = .pointer e ∧ P.info? e = some i ∧ i.size ≠ 0
 | .map k e fl, d => d = .map k e ∧ flatT P 100 k = some fl
 | .iface l, d => ∃ m, d = .interface m ∧ ∀ t ∈ l, (P.info? t).map (fun i => (lacking m i.methods).isEmpty) = some false
 | .other, d => ∀ m, d ≠ .interface m
def aggV : Value → Bool
 | .agg _ => true
 | _ => false
structure RowOK (P : Program) (t : Nat) (r : TRow) : Prop where
 info : ∃ (i : TypeInfo) (z : Value), P.info? t = some i ∧ i.size = r.size ∧ i.zero = some z ∧ aggV z = r.agg ∧ (∀ env, Dens env r.zero z.cells.toList) ∧ i.bytes ≤ 32 * i.size
 desc : ∃ d, P.underlying t = some d ∧ isAggD d = r.agg ∧ KindOK P r.k d
 flat : ∀ fs k fl ag, r.k = .struct fs (k :: fl) ag → flatT P 100 t = some (k :: fl) ∧ P.eqGuardType P.depth t = false
def TabOK (P : Program) (T : Tab) : Prop := ∀ t r, T t = some r → RowOK P t r
def ofV : Value → AV
 | .bool b => .bool b
 | .int k n => .int k n
 | .string s => .str s
 | .pointer none => .nilp
 | .slice none 0 0 => .nils
 | .map none => .nilm
 | .nilFunc => .nilf
 | .nilIface => .nili
 | v => .raw v
theorem ofV_den (env : Env) (v : Value) : Den env (ofV v) v := by
 unfold ofV; split <;> simp [Den]
def ev (fr : Fr) : Operand → Option AV
 | .tmp t => look fr t
 | .const v => some (ofV v)
 | .func f => some (.fn (.func f) [] [])
 | .global _ => none
def Need (env : Env) (o : Oper) (fr : Fr) (a : Act) : Prop := ∀ t ∈ opTmps o, ∀ v, look fr t = some v → ∃ x, a.tmps[t]? = some x ∧ Den env v x
theorem ev_den {env : Env} {o : Oper} {fr : Fr} {a : Act} {x : Operand} {v : AV} (hn : Need env o fr a) (hx : x ∈ o.op.operands) (h : ev fr x = some v) : Den env v (a.eval x) := by
 cases x with
 | tmp t =>
  have ht : t ∈ opTmps o := by
   unfold opTmps; rw [List.mem_filterMap]; exact ⟨.tmp t, Array.mem_toList_iff.2 hx, rfl⟩
  obtain ⟨y, hy, hd⟩ := hn t ht v h
  have : a.eval (.tmp t) = y := by simp [Act.eval, Array.getD_eq_getD_getElem?, hy]
  rw [this]; exact hd
 | const c => simp only [ev, Option.some.injEq] at h; subst h; exact ofV_den env c
 | func f => simp only [ev, Option.some.injEq] at h; subst h; simp [Den, Dens, Act.eval]
 | global g => simp [ev] at h
theorem Turn.refl (n : Nat) (R : Heap) (env : Env) (F : Foot) (w : World) : Turn n n R [] [] env F w env F w :=
 ⟨Env.le.refl _, fun _ _ => rfl, ⟨fun h => by simp [lookN] at h, fun h => by simp [lookN] at h⟩, fun h => by simp [lookN] at h, FrameW.refl _ _⟩
theorem triple_val {P : Program} {o : Oper} {fr : Fr} {n : Nat} {val : AV}
  (h : ∀ env a w, Need env o fr a → ∃ x, (execOp a.eval o).run P w = .ok (.value x) w ∧ Den env val x) : Triple P o fr [] [] n n val [] := by
 intro env F a w next Q hn _ _ hk
 obtain ⟨x, hr, hd⟩ := h env a w hn
 unfold Oper.wp
 rw [hr]
 exact hk env F x w (Turn.refl _ _ _ _ _) hd
inductive E where
 | no
 | val (v : AV)
 | ob (p : Prop) (d : Decidable p) (v : AV)
def E.Holds : E → AV → Prop
 | .no, _ => False
 | .val v, u => u = v
 | .ob p _ v, u => p ∧ u = v
def big : Nat := 9223372036854775807
def catB (x y : ByteArray) : ByteArray := ⟨⟨x.data.toList ++ y.data.toList⟩⟩
def subB (s : ByteArray) (l h : Nat) : ByteArray := ⟨⟨(s.data.toList.drop l).take (h - l)⟩⟩
def eqBs : List UInt8 → List UInt8 → Bool
 | [], [] => true
 | a :: l, b :: m => match Nat.beq a.toNat b.toNat with
  | true => eqBs l m
  | false => false
 | _, _ => false
def eqB (x y : ByteArray) : Bool := eqBs x.data.toList y.data.toList
theorem catB_eq (x y : ByteArray) : catB x y = x ++ y := by
 apply ByteArray.ext
 rw [ByteArray.data_append]
 apply Array.ext'
 simp [catB]
theorem subB_eq (s : ByteArray) (l h : Nat) : subB s l h = s.extract l h := by
 apply ByteArray.ext
 rw [ByteArray.data_extract]
 apply Array.ext'
 simp [subB, List.extract]
theorem eqBs_eq : ∀ (l m : List UInt8), eqBs l m = decide (l = m)
 | [], [] => by simp [eqBs]
 | [], _ :: _ => by simp [eqBs]
 | _ :: _, [] => by simp [eqBs]
 | a :: l, b :: m => by
  unfold eqBs
  cases h : Nat.beq a.toNat b.toNat with
  | true =>
   have := UInt8.toNat_inj.1 (Nat.eq_of_beq_eq_true h)
   subst this
   simp [eqBs_eq l m]
  | false =>
   have : a ≠ b := by rintro rfl; rw [Nat.beq_refl] at h; cases h
   simp [this]
theorem eqB_eq (x y : ByteArray) : eqB x y = decide (x = y) := by
 unfold eqB
 rw [eqBs_eq]
 by_cases h : x = y
 ·subst h; simp
 ·simp only [h, decide_false, decide_eq_false_iff_not]
  intro e
  exact h (ByteArray.ext (Array.ext' e))
def slt (x y : ByteArray) : Bool := Op.bytesLess x.data.toList y.data.toList
def sle (x y : ByteArray) : Bool := slt x y || eqB x y
def ibit (op : BinOp) (k : IntKind) (a b : Int) : Int :=
 match op with
 | .and => k.wrap (BitVec.ofInt k.bits a &&& BitVec.ofInt k.bits b).toNat
 | .or => k.wrap (BitVec.ofInt k.bits a ||| BitVec.ofInt k.bits b).toNat
 | .xor => k.wrap (BitVec.ofInt k.bits a ^^^ BitVec.ofInt k.bits b).toNat
 | _ => k.wrap (BitVec.ofInt k.bits a &&& ~~~ BitVec.ofInt k.bits b).toNat
def shlI (k : IntKind) (a b : Int) : Int := k.wrap (a * 2 ^ (min b.toNat k.bits))
def shrI (k : IntKind) (a b : Int) : Int := a.fdiv (2 ^ (min b.toNat k.bits))
def IntKind.same : IntKind → IntKind → Bool
 | .i8, .i8 | .i16, .i16 | .i32, .i32 | .i64, .i64 | .u8, .u8 | .u16, .u16 | .u32, .u32 | .u64, .u64 => true
 | _, _ => false
theorem IntKind.same_eq {j k : IntKind} (h : IntKind.same j k = true) : j = k := by cases j <;> cases k <;> first | rfl | (simp [IntKind.same] at h)
def posC : Operand → Bool
 | .const (.int _ (.ofNat (_ + 1))) => true
 | _ => false
def natC : Operand → Bool
 | .const (.int _ (.ofNat _)) => true
 | _ => false
def aInt (op : BinOp) (k : IntKind) (a b : Int) (pos : Bool) : E :=
 match op with
 | .add => .val (.int k (k.wrap (a + b)))
 | .sub => .val (.int k (k.wrap (a - b)))
 | .mul => .val (.int k (k.wrap (a * b)))
 | .quo => match pos with | true => .val (.int k (k.wrap (a.tdiv b))) | false => .ob (b ≠ 0) inferInstance (.int k (k.wrap (a.tdiv b)))
 | .rem => match pos with | true => .val (.int k (a.tmod b)) | false => .ob (b ≠ 0) inferInstance (.int k (a.tmod b))
 | .and => .val (.int k (ibit .and k a b))
 | .or => .val (.int k (ibit .or k a b))
 | .xor => .val (.int k (ibit .xor k a b))
 | .andNot => .val (.int k (ibit .andNot k a b))
 | .eql => .val (.bool (decide (a = b)))
 | .neq => .val (.bool (!decide (a = b)))
 | .lss => .val (.bool (decide (a < b)))
 | .leq => .val (.bool (decide (a ≤ b)))
 | .gtr => .val (.bool (decide (b < a)))
 | .geq => .val (.bool (decide (b ≤ a)))
 | _ => .no
def aStr (op : BinOp) (x y : ByteArray) : E :=
 match op with
 | .add => .ob (x.size + y.size ≤ big) inferInstance (.str (catB x y))
 | .eql => .val (.bool (eqB x y))
 | .neq => .val (.bool (!eqB x y))
 | .lss => .val (.bool (slt x y))
 | .leq => .val (.bool (sle x y))
 | .gtr => .val (.bool (!sle x y))
 | .geq => .val (.bool (!slt x y))
 | _ => .no
def aShift (op : BinOp) (k : IntKind) (a b : Int) (nat : Bool) : E :=
 match op with
 | .shl => match nat with | true => .val (.int k (shlI k a b)) | false => .ob (0 ≤ b) inferInstance (.int k (shlI k a b))
 | _ => match nat with | true => .val (.int k (shrI k a b)) | false => .ob (0 ≤ b) inferInstance (.int k (shrI k a b))
def nilP : AV → Option Bool
 | .nilp => some true
 | .ptr _ _ | .el _ _ _ _ => some false
 | _ => none
def nilI : AV → Option Bool
 | .nili => some true
 | .iface _ _ => some false
 | _ => none
def kindOf (T : Tab) (t : Nat) : TK := match T t with | some ⟨_, _, _, k⟩ => k | none => .other
def aEq (T : Tab) (t : Nat) (neg : Bool) (x y : AV) (yc : Bool) : E :=
 match x, y with
 | .bool a, .bool b => match kindOf T t with
  | .bool => .val (.bool (match neg with | true => !(a == b) | false => a == b))
  | _ => .no
 | x, .nilp => match kindOf T t, nilP x with
  | .ptr _, some b => .val (.bool (match neg with | true => !b | false => b))
  | _, _ => .no
 | x, .nili => match kindOf T t, nilI x, yc with
  | .iface _, some b, true => .val (.bool (match neg with | true => !b | false => b))
  | _, _, _ => .no
 | .nilp, y => match kindOf T t, nilP y with
  | .ptr _, some b => .val (.bool (match neg with | true => !b | false => b))
  | _, _ => .no
 | _, _ => .no
def isC : Operand → Bool
 | .const _ => true
 | _ => false
def aBin (T : Tab) (op : BinOp) (t : Nat) (x y : AV) (yo : Operand) : E :=
 match op with
 | .shl => match x, y with | .int k a, .int _ b => aShift .shl k a b (natC yo) | _, _ => .no
 | .shr => match x, y with | .int k a, .int _ b => aShift .shr k a b (natC yo) | _, _ => .no
 | op => match x, y with
  | .int k a, .int k' b => match IntKind.same k k' with | true => aInt op k a b (posC yo) | false => .no
  | .str a, .str b => aStr op a b
  | x, y => match op with
   | .eql => aEq T t false x y (isC yo)
   | .neq => aEq T t true x y (isC yo)
   | _ => .no
theorem toList_inj_bytes {a b : ByteArray} : (a.toList == b.toList) = decide (a = b) := by
 rw [ByteArray.toList_eq, ByteArray.toList_eq]
 by_cases h : a = b
 ·subst h; simp
 ·simp only [h, decide_false, beq_eq_false_iff_ne, ne_eq]
  intro e
  obtain ⟨⟨x⟩⟩ := a
  obtain ⟨⟨y⟩⟩ := b
  exact h (by simpa using e)
theorem posC_ne {o : Operand} {fr : Fr} {k : IntKind} {b : Int} (h : posC o = true) (he : ev fr o = some (.int k b)) : b ≠ 0 := by
 unfold posC at h
 split at h
 ·simp only [ev, ofV, Option.some.injEq, AV.int.injEq] at he
  rw [← he.2]; simp; omega
 ·cases h
theorem natC_nn {o : Operand} {fr : Fr} {k : IntKind} {b : Int} (h : natC o = true) (he : ev fr o = some (.int k b)) : 0 ≤ b := by
 unfold natC at h
 split at h
 ·simp only [ev, ofV, Option.some.injEq, AV.int.injEq] at he
  rw [← he.2]; simp
 ·cases h
theorem aInt_ok {P : Program} {w : World} {op : BinOp} {k : IntKind} {a b : Int} {pos : Bool} {v : AV} {t : Nat} (hp : pos = true → b ≠ 0) (hs : op ≠ .shl) (hs' : op ≠ .shr) (h : (aInt op k a b pos).Holds v) :
  ∃ x, (binOp op t (.int k a) (.int k b)).run P w = .ok x w ∧ ∀ env, Den env v x := by
 have e1 : (a == b) = decide (a = b) := by by_cases h : a = b <;> simp [h]
 have e2 : (a != b) = !decide (a = b) := by by_cases h : a = b <;> simp [h]
 cases op with
 | quo =>
  cases pos <;> simp only [aInt, E.Holds] at h
  ·obtain ⟨h1, rfl⟩ := h; simp [binOp, Op.intDiv, Den, h1]
  ·subst h; simp [binOp, Op.intDiv, Den, hp rfl]
 | rem =>
  cases pos <;> simp only [aInt, E.Holds] at h
  ·obtain ⟨h1, rfl⟩ := h; simp [binOp, Op.intDiv, Den, h1]
  ·subst h; simp [binOp, Op.intDiv, Den, hp rfl]
 | shl => exact absurd rfl hs
 | shr => exact absurd rfl hs'
 | _ =>
  simp only [aInt, E.Holds] at h
  subst h
  simp [binOp, Op.intArith, Op.intBits, Op.intCmp, Den, ibit, e1, e2]
theorem aStr_ok {P : Program} {w : World} {op : BinOp} {a b : ByteArray} {v : AV} {t : Nat} (h : (aStr op a b).Holds v) :
  ∃ x, (binOp op t (.string a) (.string b)).run P w = .ok x w ∧ ∀ env, Den env v x := by
 cases op with
 | add =>
  simp only [aStr, E.Holds] at h
  obtain ⟨h1, rfl⟩ := h
  simp [binOp, Op.stringOp, Den, catB_eq]
  unfold big at h1; omega
 | eql | neq | lss | leq | gtr | geq =>
  simp only [aStr, E.Holds] at h
  subst h
  simp only [slt, sle, eqB_eq, ← ByteArray.toList_eq]
  simp [binOp, Op.stringOp, Den, toList_inj_bytes]
 | _ => simp only [aStr, E.Holds] at h
theorem aShift_ok {P : Program} {w : World} {op : BinOp} {k yk : IntKind} {a b : Int} {nat : Bool} {v : AV} {t : Nat} (ho : op = .shl ∨ op = .shr) (hp : nat = true → 0 ≤ b) (h : (aShift op k a b nat).Holds v) :
  ∃ x, (binOp op t (.int k a) (.int yk b)).run P w = .ok x w ∧ ∀ env, Den env v x := by
 have key : ∀ (_ : 0 ≤ b), ¬ b < 0 := fun h => by omega
 rcases ho with rfl | rfl <;> cases nat <;> simp only [aShift, E.Holds] at h
 ·obtain ⟨h1, rfl⟩ := h; simp [binOp, Op.shift, Den, key h1, shlI]
 ·subst h; simp [binOp, Op.shift, Den, key (hp rfl), shlI]
 ·obtain ⟨h1, rfl⟩ := h; simp [binOp, Op.shift, Den, key h1, shrI]
 ·subst h; simp [binOp, Op.shift, Den, key (hp rfl), shrI]
theorem kindOf_ok {P : Program} {T : Tab} (hT : TabOK P T) {t : Nat} {k : TK} (h : kindOf T t = k) (hk : k ≠ .other) : ∃ d, P.underlying t = some d ∧ KindOK P k d := by
 unfold kindOf at h
 split at h
 ·rename_i hr
  obtain ⟨d, h1, _, h3⟩ := (hT _ _ hr).desc
  subst h
  exact ⟨d, h1, h3⟩
 ·exact absurd h.symm hk
theorem nilP_ok {env : Env} {x : AV} {b : Bool} {y : Value} (h : nilP x = some b) (hd : Den env x y) : ∃ p, y = .pointer p ∧ b = p.isNone := by
 cases x <;> simp [nilP] at h <;> subst h <;> simp only [Den] at hd
 ·obtain ⟨c, _, rfl⟩ := hd; exact ⟨_, rfl, rfl⟩
 ·obtain ⟨c, o, l, cap, _, rfl⟩ := hd; exact ⟨_, rfl, rfl⟩
 ·subst hd; exact ⟨_, rfl, rfl⟩
theorem nilI_ok {env : Env} {x : AV} {b : Bool} {y : Value} (h : nilI x = some b) (hd : Den env x y) : (y = .nilIface ∧ b = true) ∨ ((∃ t z, y = .iface t z) ∧ b = false) := by
 cases x <;> simp [nilI] at h <;> subst h <;> simp only [Den] at hd
 ·subst hd; exact .inl ⟨rfl, rfl⟩
 ·obtain ⟨z, rfl, _⟩ := hd; exact .inr ⟨⟨_, _, rfl⟩, rfl⟩
theorem run_equalIn_bool' {P : Program} {w : World} {d t : Nat} {a b : Bool} (h : P.underlying t = some .bool) : (Op.equalIn (d + 1) t (.bool a) (.bool b)).run P w = .ok (a == b) w := by
 simp [Op.equalIn, run_underlying h]
theorem run_equalIn_ptr' {P : Program} {w : World} {d t e : Nat} {p : Option Addr} (h : P.underlying t = some (.pointer e)) : (Op.equalIn (d + 1) t (.pointer p) (.pointer none)).run P w = .ok p.isNone w := by
 cases p <;> simp [Op.equalIn, run_underlying h]
theorem run_equalIn_ptrL' {P : Program} {w : World} {d t e : Nat} {p : Option Addr} (h : P.underlying t = some (.pointer e)) : (Op.equalIn (d + 1) t (.pointer none) (.pointer p)).run P w = .ok p.isNone w := by
 cases p <;> simp [Op.equalIn, run_underlying h]
theorem run_equalIn_iface' {P : Program} {w : World} {d t : Nat} {m : Array (String × TypeId)} {y : Value} (h : P.underlying t = some (.interface m)) (hy : y = .nilIface ∨ ∃ s z, y = .iface s z) :
  (Op.equalIn (d + 1) t y .nilIface).run P w = .ok (y matches .nilIface) w := by
 rcases hy with rfl | ⟨s, z, rfl⟩ <;> simp [Op.equalIn, run_underlying h]
theorem run_equal_bool {P : Program} {w : World} {t : Nat} {a b : Bool} (h : P.underlying t = some .bool) : (Op.equal t (.bool a) (.bool b)).run P w = .ok (a == b) w :=
 run_equalIn_bool' (d := 9999) h
theorem run_equal_ptr {P : Program} {w : World} {t e : Nat} {p : Option Addr} (h : P.underlying t = some (.pointer e)) : (Op.equal t (.pointer p) (.pointer none)).run P w = .ok p.isNone w :=
 run_equalIn_ptr' (d := 9999) h
theorem run_equal_ptrL {P : Program} {w : World} {t e : Nat} {p : Option Addr} (h : P.underlying t = some (.pointer e)) : (Op.equal t (.pointer none) (.pointer p)).run P w = .ok p.isNone w :=
 run_equalIn_ptrL' (d := 9999) h
theorem run_equal_iface {P : Program} {w : World} {t : Nat} {m : Array (String × TypeId)} {y : Value} (h : P.underlying t = some (.interface m)) (hy : y = .nilIface ∨ ∃ s z, y = .iface s z) :
  (Op.equal t y .nilIface).run P w = .ok (y matches .nilIface) w :=
 run_equalIn_iface' (d := 9999) h hy
theorem eqGuard_ok {P : Program} {w : World} {op : BinOp} {t : Nat} {x y : Operand} {a b : Value} (h : ∀ l m, ¬ (a = .agg l ∧ b = .agg m)) (hc : b = .nilIface → isC y = true) : (eqGuard op t x y a b).run P w = .ok () w := by
 unfold eqGuard
 cases op <;> simp
 all_goals
  split
  ·have := hc rfl
   unfold isC at this
   split at this
   ·simp
   ·cases this
  ·exact absurd ⟨rfl, rfl⟩ (h _ _)
  ·rfl
theorem binOp_eql {t : TypeId} {x y : Value} (h1 : ∀ k a, x ≠ .int k a) (h2 : ∀ k a, x ≠ .float k a) (h3 : ∀ k a b, x ≠ .complex k a b) (h4 : ∀ s, x ≠ .string s) :
  binOp .eql t x y = (do pure (.bool (← Op.equal t x y))) := by
 unfold binOp
 split <;> simp_all
theorem binOp_neq {t : TypeId} {x y : Value} (h1 : ∀ k a, x ≠ .int k a) (h2 : ∀ k a, x ≠ .float k a) (h3 : ∀ k a b, x ≠ .complex k a b) (h4 : ∀ s, x ≠ .string s) :
  binOp .neq t x y = (do pure (.bool (!(← Op.equal t x y)))) := by
 unfold binOp
 split <;> simp_all
theorem aEq_ok {P : Program} {T : Tab} (hT : TabOK P T) {w : World} {env : Env} {t : Nat} {neg : Bool} {x y : AV} {yc : Bool} {v : AV} {a b : Value} (ha : Den env x a) (hb : Den env y b) (h : (aEq T t neg x y yc).Holds v) :
  ∃ r, (binOp (if neg then .neq else .eql) t a b).run P w = .ok (.bool r) w ∧ v = .bool r ∧ (∀ l m, ¬ (a = .agg l ∧ b = .agg m)) ∧ (b = .nilIface → yc = true) := by
 unfold aEq at h
 split at h
 ·split at h
  ·rename_i hk
   simp only [E.Holds] at h; simp only [Den] at ha hb; subst ha; subst hb; subst h
   obtain ⟨d, h1, h2⟩ := kindOf_ok hT hk (by simp)
   simp only [KindOK] at h2; subst h2
   refine ⟨_, ?_, rfl, by simp, by simp⟩
   cases neg
   ·simp [binOp_eql, run_equal_bool h1]
   ·simp [binOp_neq, run_equal_bool h1]
  ·exact h.elim
 ·split at h
  ·rename_i hk hn
   simp only [E.Holds] at h; simp only [Den] at hb; subst hb; subst h
   obtain ⟨d, h1, h2⟩ := kindOf_ok hT hk (by simp)
   obtain ⟨i, rfl, _, _⟩ := h2
   obtain ⟨p, rfl, rfl⟩ := nilP_ok hn ha
   refine ⟨_, ?_, rfl, by simp, by simp⟩
   cases neg
   ·simp [binOp_eql, run_equal_ptr h1]
   ·simp [binOp_neq, run_equal_ptr h1]
  ·exact h.elim
 ·split at h
  ·rename_i hk hn
   simp only [E.Holds] at h; simp only [Den] at hb; subst hb; subst h
   obtain ⟨d, h1, h2⟩ := kindOf_ok hT hk (by simp)
   obtain ⟨m, rfl, _⟩ := h2
   rcases nilI_ok hn ha with ⟨rfl, rfl⟩ | ⟨⟨s, z, rfl⟩, rfl⟩
   ·refine ⟨_, ?_, rfl, by simp, fun _ => rfl⟩
    cases neg
    ·simp [binOp_eql, run_equal_iface h1 (.inl rfl)]
    ·simp [binOp_neq, run_equal_iface h1 (.inl rfl)]
   ·refine ⟨_, ?_, rfl, by simp, fun _ => rfl⟩
    cases neg
    ·simp [binOp_eql, run_equal_iface h1 (.inr ⟨s, z, rfl⟩)]
    ·simp [binOp_neq, run_equal_iface h1 (.inr ⟨s, z, rfl⟩)]
  ·exact h.elim
 ·split at h
  ·rename_i hk hn
   simp only [E.Holds] at h; simp only [Den] at ha; subst ha; subst h
   obtain ⟨d, h1, h2⟩ := kindOf_ok hT hk (by simp)
   obtain ⟨i, rfl, _, _⟩ := h2
   obtain ⟨p, rfl, rfl⟩ := nilP_ok hn hb
   refine ⟨_, ?_, rfl, by simp, by simp⟩
   cases neg
   ·simp [binOp_eql, run_equal_ptrL h1]
   ·simp [binOp_neq, run_equal_ptrL h1]
  ·exact h.elim
 ·exact h.elim
end
end Go.SX
namespace Go.SX
noncomputable section
theorem dens_iff {env : Env} : ∀ {l : List AV} {xs : List Value}, Dens env l xs ↔ l.length = xs.length ∧ ∀ (i : Nat) (v : AV), l[i]? = some v → ∃ x, xs[i]? = some x ∧ Den env v x
 | [], xs => by
  simp only [Dens]
  constructor
  ·rintro rfl; simp
  ·rintro ⟨h, _⟩; exact List.length_eq_zero_iff.1 h.symm
 | v :: l, xs => by
  simp only [Dens]
  constructor
  ·rintro ⟨y, ys, rfl, h1, h2⟩
   obtain ⟨h3, h4⟩ := dens_iff.1 h2
   refine ⟨by simp [h3], ?_⟩
   intro i u hu
   cases i with
   | zero => simp at hu; subst hu; exact ⟨y, by simp, h1⟩
   | succ i => simp at hu; simpa using h4 i u hu
  ·rintro ⟨h1, h2⟩
   cases xs with
   | nil => simp at h1
   | cons y ys =>
    refine ⟨y, ys, rfl, ?_, dens_iff.2 ⟨by simpa using h1, fun i u hu => ?_⟩⟩
    ·obtain ⟨x, hx, hd⟩ := h2 0 v (by simp)
     simp at hx; subst hx; exact hd
    ·have := h2 (i + 1) u (by simpa using hu)
     simpa using this
theorem Dens.length {env : Env} {l : List AV} {xs : List Value} (h : Dens env l xs) : l.length = xs.length := (dens_iff.1 h).1
theorem Dens.get {env : Env} {l : List AV} {xs : List Value} (h : Dens env l xs) {i : Nat} {v : AV} (hv : l[i]? = some v) : ∃ x, xs[i]? = some x ∧ Den env v x := (dens_iff.1 h).2 i v hv
theorem Dens.take {env : Env} {l : List AV} {xs : List Value} (h : Dens env l xs) (k : Nat) : Dens env (l.take k) (xs.take k) := by
 rw [dens_iff] at h ⊢
 refine ⟨by simp [h.1], fun i v hv => ?_⟩
 rw [List.getElem?_take] at hv ⊢
 split at hv
 ·rename_i hk; rw [if_pos hk]; exact h.2 i v hv
 ·cases hv
theorem Dens.drop {env : Env} {l : List AV} {xs : List Value} (h : Dens env l xs) (k : Nat) : Dens env (l.drop k) (xs.drop k) := by
 rw [dens_iff] at h ⊢
 refine ⟨by simp [h.1], fun i v hv => ?_⟩
 rw [List.getElem?_drop] at hv ⊢
 exact h.2 _ v hv
theorem Dens.append {env : Env} : ∀ {l m : List AV} {xs ys : List Value}, Dens env l xs → Dens env m ys → Dens env (l ++ m) (xs ++ ys)
 | [], _, _, _, h, k => by simp only [Dens] at h; subst h; simpa using k
 | v :: l, m, xs, ys, h, k => by
  simp only [Dens] at h
  obtain ⟨y, zs, rfl, h1, h2⟩ := h
  simp only [List.cons_append, Dens]
  exact ⟨y, zs ++ ys, rfl, h1, h2.append k⟩
def nth {α : Type} (l : List α) (n : Nat) : Option α := List.rec (motive := fun _ => Nat → Option α) (fun _ => none) (fun x _ ih n => Nat.rec (some x) (fun k _ => ih k) n) l n
theorem nth_eq {α : Type} : ∀ (l : List α) (n : Nat), nth l n = l[n]?
 | [], n => by cases n <;> rfl
 | x :: l, 0 => rfl
 | x :: l, n + 1 => (nth_eq l n).trans (by simp)
def cellsOf : AV → List AV
 | .agg l => l
 | v => [v]
theorem cellsOf_den {env : Env} {v : AV} {x : Value} (hr : ∀ u, v ≠ .raw u) (h : Den env v x) : Dens env (cellsOf v) x.cells.toList := by
 have one : ∀ y : Value, (∀ c, y ≠ .agg c) → y.cells = #[y] := by
  intro y hy; unfold Value.cells; split
  ·exact absurd rfl (hy _)
  ·rfl
 cases v with
 | agg l => simp only [Den] at h; obtain ⟨xs, rfl, h2⟩ := h; simpa [cellsOf, Value.cells] using h2
 | raw u => exact absurd rfl (hr u)
 | _ =>
  have hx : ∀ c, x ≠ .agg c := by
   intro c e; subst e; simp [Den] at h
   try (first | exact h.2.elim | (obtain ⟨_, _, h⟩ := h; simp at h))
  rw [one x hx]
  simp only [cellsOf, Dens]
  exact ⟨x, [], rfl, h, rfl⟩
def splice (cs : List AV) (off : Nat) (l : List AV) : List AV := appR (takeR off cs) (appR l (dropR (off + lenR l) cs))
theorem splice_def (cs : List AV) (off : Nat) (l : List AV) : splice cs off l = cs.take off ++ (l ++ cs.drop (off + l.length)) := by simp only [splice, appR_eq, takeR_eq, dropR_eq, lenR_eq]
theorem splice_den {env : Env} {cs l : List AV} {xs ys : List Value} (h : Dens env cs xs) (k : Dens env l ys) (off : Nat) :
  Dens env (splice cs off l) (xs.take off ++ (ys ++ xs.drop (off + ys.length))) := by
 rw [splice_def]
 rw [k.length]
 exact (h.take off).append (k.append (h.drop _))
theorem foldl_get (off : Nat) : ∀ (vs : List Value) (k : Nat) (cs : Array Value), off + k + vs.length ≤ cs.size →
  ((vs.zipIdx k).foldl (fun cs (p : Value × Nat) => cs.setIfInBounds (off + p.2) p.1) cs).size = cs.size ∧
  ∀ i : Nat, ((vs.zipIdx k).foldl (fun cs (p : Value × Nat) => cs.setIfInBounds (off + p.2) p.1) cs)[i]? = if off + k ≤ i ∧ i < off + k + vs.length then vs[i - (off + k)]? else cs[i]?
 | [], k, cs, _ => by
  refine ⟨by simp, fun i => ?_⟩
  have : ¬ (off + k ≤ i ∧ i < off + k + ([] : List Value).length) := by simp
  rw [if_neg this]; simp
 | v :: vs, k, cs, h => by
  simp only [List.length_cons] at h
  obtain ⟨h1, h2⟩ := foldl_get off vs (k + 1) (cs.setIfInBounds (off + k) v) (by simp; omega)
  rw [List.zipIdx_cons, List.foldl_cons]
  refine ⟨by rw [h1]; simp, fun i => ?_⟩
  rw [h2 i]
  simp only [List.length_cons]
  by_cases h3 : i = off + k
  ·subst h3
   have h4 : ¬ (off + (k + 1) ≤ off + k ∧ off + k < off + (k + 1) + vs.length) := by omega
   have h5 : off + k ≤ off + k ∧ off + k < off + k + (vs.length + 1) := by omega
   rw [if_neg h4, if_pos h5]
   simp [show off + k < cs.size by omega]
  ·by_cases h4 : off + (k + 1) ≤ i ∧ i < off + (k + 1) + vs.length
   ·have h5 : off + k ≤ i ∧ i < off + k + (vs.length + 1) := by omega
    have h6 : i - (off + k) = (i - (off + (k + 1))) + 1 := by omega
    rw [if_pos h4, if_pos h5, h6, List.getElem?_cons_succ]
   ·have h5 : ¬ (off + k ≤ i ∧ i < off + k + (vs.length + 1)) := by omega
    rw [if_neg h4, if_neg h5, Array.getElem?_setIfInBounds_ne (by omega)]
theorem foldl_set (off : Nat) (vs : List Value) (cs : Array Value) (h : off + vs.length ≤ cs.size) :
  ((vs.zipIdx).foldl (fun cs (p : Value × Nat) => cs.setIfInBounds (off + p.2) p.1) cs).toList = cs.toList.take off ++ (vs ++ cs.toList.drop (off + vs.length)) := by
 obtain ⟨h1, h2⟩ := foldl_get off vs 0 cs (by omega)
 apply List.ext_getElem?
 intro i
 have := h2 i
 rw [← Array.getElem?_toList] at this
 rw [this]
 simp only [Nat.add_zero, List.getElem?_append, List.length_take, Array.length_toList, List.getElem?_take, List.getElem?_drop]
 have h6 : min off cs.size = off := by omega
 rw [h6]
 by_cases h3 : i < off
 ·have h4 : ¬ (off ≤ i ∧ i < off + vs.length) := by omega
  rw [if_neg h4, if_pos h3, if_pos h3]; simp
 ·rw [if_neg h3]
  by_cases h4 : i < off + vs.length
  ·rw [if_pos ⟨by omega, h4⟩, if_pos (by omega)]
  ·rw [if_neg (by omega), if_neg (by omega)]
   simp only [Array.getElem?_toList]
   congr 1; omega
def fillA (place : Nat → Option (Nat × Nat)) (cs : List AV) (ps : List (Nat × AV)) : Option (List AV) := List.rec (motive := fun _ => List AV → Option (List AV)) (fun cs => some cs) (fun p _ ih cs =>
  match place p.1, p.2 with
  | _, .raw _ => none
  | some (off, sz), v => match Nat.beq (lenR (cellsOf v)) sz, Nat.ble (off + sz) (lenR cs) with
   | true, true => ih (splice cs off (cellsOf v))
   | _, _ => none
  | none, _ => none) ps cs
theorem fillA_nil (place : Nat → Option (Nat × Nat)) (cs : List AV) : fillA place cs [] = some cs := rfl
theorem fillA_cons (place : Nat → Option (Nat × Nat)) (cs : List AV) (i : Nat) (v : AV) (r : List (Nat × AV)) : fillA place cs ((i, v) :: r) = (match place i, v with
  | _, .raw _ => none
  | some (off, sz), v => match Nat.beq (cellsOf v).length sz, Nat.ble (off + sz) cs.length with
   | true, true => fillA place (splice cs off (cellsOf v)) r
   | _, _ => none
  | none, _ => none) := by
 have h : fillA place cs ((i, v) :: r) = (match place i, v with
   | _, .raw _ => none
   | some (off, sz), v => match Nat.beq (lenR (cellsOf v)) sz, Nat.ble (off + sz) (lenR cs) with
    | true, true => fillA place (splice cs off (cellsOf v)) r
    | _, _ => none
   | none, _ => none) := rfl
 rw [h]
 simp only [lenR_eq]
inductive DenP (env : Env) : List (Nat × AV) → List (Nat × Value) → Prop
 | nil : DenP env [] []
 | cons {i : Nat} {v : AV} {x : Value} {l : List (Nat × AV)} {m : List (Nat × Value)} (h : Den env v x) (t : DenP env l m) : DenP env ((i, v) :: l) ((i, x) :: m)
theorem fill_ok {env : Env} {place : Nat → Option (Nat × Nat)} {ps : List (Nat × AV)} {qs : List (Nat × Value)} (h : DenP env ps qs) :
  ∀ {cs cs' : List AV} {xs : Array Value}, Dens env cs xs.toList → fillA place cs ps = some cs' → ∃ ys, Instr.fill place xs qs = some ys ∧ Dens env cs' ys.toList := by
 induction h with
 | nil => intro cs cs' xs hd hf; simp only [fillA_nil, Option.some.injEq] at hf; subst hf; exact ⟨xs, rfl, hd⟩
 | @cons i v x l m hv ht ih =>
  intro cs cs' xs hd hf
  rw [fillA_cons] at hf
  split at hf
  ·cases hf
  ·rename_i off sz hpl hraw
   split at hf
   ·rename_i h1 h2
    have h1 := Nat.eq_of_beq_eq_true h1
    have h2 := Nat.le_of_ble_eq_true h2
    have hc := cellsOf_den (fun u e => hraw u e) hv
    have hl := hc.length
    have hl2 := hd.length
    have hx : x.cells.size = sz := by rw [← h1, hl]; simp
    have hb : ¬ off + x.cells.size > xs.size := by
     have : xs.size = cs.length := by rw [hl2]; simp
     omega
    obtain ⟨ys, h3, h4⟩ := ih (xs := x.cells.zipIdx.foldl (fun cs (p : Value × Nat) => cs.setIfInBounds (off + p.2) p.1) xs) (by
     rw [← Array.foldl_toList, Array.toList_zipIdx]
     have := foldl_set off x.cells.toList xs (by simpa using Nat.le_of_not_gt hb)
     rw [this]
     simpa using splice_den hd hc off) hf
    refine ⟨ys, ?_, h4⟩
    unfold Instr.fill
    rw [hpl]
    simp only [hx, ne_eq, not_true_eq_false, decide_false, Bool.false_or, decide_eq_true_eq]
    rw [hx] at hb
    simp only [hb, if_false]
    exact h3
   ·cases hf
  ·cases hf
end
end Go.SX
namespace Go.SX
noncomputable section
def evs (fr : Fr) (l : List Operand) : Option (List AV) := List.rec (motive := fun _ => Option (List AV)) (some []) (fun x _ ih => match ev fr x, ih with
  | some v, some r => some (v :: r)
  | _, _ => none) l
theorem evs_nil (fr : Fr) : evs fr [] = some [] := rfl
theorem evs_cons (fr : Fr) (x : Operand) (l : List Operand) : evs fr (x :: l) = (match ev fr x, evs fr l with
  | some v, some r => some (v :: r)
  | _, _ => none) := rfl
theorem evs_den {env : Env} {o : Oper} {fr : Fr} {a : Act} (hn : Need env o fr a) : ∀ {xs : List Operand} {vs : List AV}, (∀ x ∈ xs, x ∈ o.op.operands) → evs fr xs = some vs → Dens env vs (xs.map a.eval)
 | [], vs, _, h => by simp only [evs_nil, Option.some.injEq] at h; subst h; simp [Dens]
 | x :: l, vs, hm, h => by
  rw [evs_cons] at h
  split at h
  ·rename_i v r h1 h2
   cases h
   simp only [List.map_cons, Dens]
   exact ⟨_, _, rfl, ev_den hn (hm x List.mem_cons_self) h1, evs_den hn (fun y hy => hm y (List.mem_cons_of_mem _ hy)) h2⟩
  ·cases h
def evps (fr : Fr) (l : List (Nat × Operand)) : Option (List (Nat × AV)) := List.rec (motive := fun _ => Option (List (Nat × AV))) (some []) (fun p _ ih => match ev fr p.2, ih with
  | some v, some r => some ((p.1, v) :: r)
  | _, _ => none) l
theorem evps_nil (fr : Fr) : evps fr [] = some [] := rfl
theorem evps_cons (fr : Fr) (i : Nat) (x : Operand) (l : List (Nat × Operand)) : evps fr ((i, x) :: l) = (match ev fr x, evps fr l with
  | some v, some r => some ((i, v) :: r)
  | _, _ => none) := rfl
theorem evps_den {env : Env} {o : Oper} {fr : Fr} {a : Act} (hn : Need env o fr a) : ∀ {xs : List (Nat × Operand)} {vs : List (Nat × AV)}, (∀ p ∈ xs, p.2 ∈ o.op.operands) → evps fr xs = some vs → DenP env vs (xs.map fun p => (p.1, a.eval p.2))
 | [], vs, _, h => by simp only [evps_nil, Option.some.injEq] at h; subst h; exact .nil
 | (i, x) :: l, vs, hm, h => by
  rw [evps_cons] at h
  split at h
  ·rename_i v r h1 h2
   cases h
   exact .cons (ev_den hn (hm (i, x) List.mem_cons_self) h1) (evps_den hn (fun y hy => hm y (List.mem_cons_of_mem _ hy)) h2)
  ·cases h
def aUn (op : UnOp) (x : AV) : E :=
 match op, x with
 | .not, .bool b => .val (.bool (!b))
 | .neg, .int k n => .val (.int k (k.wrap (-n)))
 | _, _ => .no
def partA (agg : Bool) (cs : List AV) (off sz : Nat) : Option AV :=
 match agg with
 | true => some (.agg (takeR sz (dropR off cs)))
 | false => nth cs off
def byteAt (s : ByteArray) (i : Int) : Int := ((s[i.toNat]?).getD 0).toNat
def optE (o : Option AV) : E := match o with | some v => .val v | none => .no
def sliceE (s : ByteArray) (lo hi : Option AV) : E :=
 match lo, hi with
 | none, none => .val (.str s)
 | some (.int _ l), none => .ob (0 ≤ l ∧ l ≤ s.size) inferInstance (.str (subB s l.toNat s.size))
 | none, some (.int _ h) => .ob (0 ≤ h ∧ h ≤ s.size) inferInstance (.str (subB s 0 h.toNat))
 | some (.int _ l), some (.int _ h) => .ob (0 ≤ l ∧ l ≤ h ∧ h ≤ s.size) inferInstance (.str (subB s l.toNat h.toNat))
 | _, _ => .no
def evo (fr : Fr) : Option Operand → Option (Option AV)
 | none => some none
 | some x => match ev fr x with | some v => some (some v) | none => none
def ifaceA (l : List Nat) (z : List AV) (x : Option AV) (ok : Bool) : E := match z, x, ok with
 | [z], some (.iface t' _), true => match memNs t' l with
  | true => .val (.tup [z, .bool false])
  | false => .no
 | _, _, _ => .no
def fldA (fs : List (Nat × Nat)) (ag : List Bool) (i : Nat) (l : List AV) : E := match nth fs i, nth ag i with
 | some (off, _), some false => optE (nth l off)
 | some (off, sz), some true => .val (.agg ((l.drop off).take sz))
 | _, _ => .no
def aOp (T : Tab) (fr : Fr) : Op → E
 | .move x => optE (ev fr x)
 | .assign x => optE (ev fr x)
 | .build t ps => match T t, evps fr ps.toList with
  | some ⟨true, _, z, .struct fs _ _⟩, some vs => match fillA (nth fs) z vs with | some cs => .val (.agg cs) | none => .no
  | some ⟨true, _, z, .arr _ e⟩, some vs => match T e with
   | some ⟨_, sz, _, _⟩ => match fillA (fun i => some (i * sz, sz)) z vs with | some cs => .val (.agg cs) | none => .no
   | none => .no
  | _, _ => .no
 | .nilCheck x => match ev fr x with
  | some (.ptr h k) => .val (.ptr h k)
  | some (.el h z i k) => .val (.el h z i k)
  | some (.iface t v) => .val (.iface t v)
  | some (.fn (.func f) l m) => .val (.fn (.func f) l m)
  | _ => .no
 | .binOp op t x y _ => match ev fr x, ev fr y with
  | some v, some u => aBin T op t v u y
  | _, _ => .no
 | .unOp op _ x => match ev fr x with
  | some v => aUn op v
  | none => .no
 | .convert s d x => match kindOf T s, kindOf T d, ev fr x with
  | .int _, .int k, some (.int _ n) => .val (.int k (k.wrap n))
  | .str, .str, some (.str v) => .val (.str v)
  | _, _, _ => .no
 | .makeInterface t x => match T t, ev fr x with
  | some ⟨_, _, _, .iface _⟩, _ => .no
  | some _, some v => .val (.iface t v)
  | _, _ => .no
 | .makeFunc f l m => match evs fr l.toList, evs fr m.toList with
  | some vs, some us => .val (.fn f vs us)
  | _, _ => .no
 | .fieldAddr t x i => match kindOf T t, ev fr x with
  | .struct fs _ _, some (.ptr h k) => match nth fs i with | some (off, _) => .val (.ptr h (k + off)) | none => .no
  | .struct fs _ _, some (.el h z j c) => match nth fs i with | some (off, _) => .val (.el h z j (c + off)) | none => .no
  | _, _ => .no
 | .field t x i => match kindOf T t, ev fr x with
  | .struct fs _ ag, some (.agg l) => fldA fs ag i l
  | _, _ => .no
 | .extract x i => match ev fr x with
  | some (.tup l) => optE (nth l i)
  | _ => .no
 | .indexAddr t x i => match kindOf T t, ev fr x, ev fr i with
  | .slice e, some (.sl h len), some (.int _ n) => match T e with
   | some ⟨_, sz, _, _⟩ => .ob (0 ≤ n ∧ n < len) inferInstance (.el h sz n.toNat 0)
   | none => .no
  | .arr m e, some (.ptr h k), some (.int _ n) => match T e with
   | some ⟨_, sz, _, _⟩ => .ob (0 ≤ n ∧ n < m) inferInstance (.ptr h (k + n.toNat * sz))
   | none => .no
  | _, _, _ => .no
 | .index t x i => match kindOf T t, ev fr x, ev fr i with
  | .str, some (.str s), some (.int _ n) => .ob (0 ≤ n ∧ n < s.size) inferInstance (.int .u8 (byteAt s n))
  | _, _, _ => .no
 | .slice t x lo hi none => match kindOf T t, ev fr x, evo fr lo, evo fr hi with
  | .str, some (.str s), some l, some h => sliceE s l h
  | _, _, _, _ => .no
 | .typeAssert x _ t ok => match T t, ev fr x, ok with
  | some ⟨_, _, z, .iface l⟩, x, ok => ifaceA l z x ok
  | some ⟨ag, _, z, _⟩, some (.iface t' v), true => match Nat.beq t' t with
   | true => .val (.tup [v, .bool true])
   | false => match ag, z with
    | true, z => .val (.tup [.agg z, .bool false])
    | false, [z] => .val (.tup [z, .bool false])
    | _, _ => .no
  | some ⟨ag, _, z, _⟩, some .nili, true => match ag, z with
    | true, z => .val (.tup [.agg z, .bool false])
    | false, [z] => .val (.tup [z, .bool false])
    | _, _ => .no
  | some _, some (.iface t' v), false => match Nat.beq t' t with
   | true => .val v
   | false => .no
  | _, _, _ => .no
 | .call { callee := .builtin .len, args := xs, argTypes := ts } => match xs.toList, ts.toList with
  | [x], [t] => match kindOf T t, ev fr x with
   | .str, some (.str s) => .val (.int .i64 s.size)
   | .slice _, some (.sl _ n) => .val (.int .i64 n)
   | .slice _, some .nils => .val (.int .i64 0)
   | _, _ => .no
  | _, _ => .no
 | .call { callee := .builtin .max, args := xs, argTypes := _ } => match evs fr xs.toList with
  | some [.int k a, .int _ b] => .val (.int k (max a b))
  | _ => .no
 | .call { callee := .builtin .min, args := xs, argTypes := _ } => match evs fr xs.toList with
  | some [.int k a, .int _ b] => .val (.int k (min a b))
  | _ => .no
 | _ => .no
theorem row_info {P : Program} {T : Tab} (hT : TabOK P T) {t : Nat} {r : TRow} (h : T t = some r) (w : World) :
  (sizeOf t).run P w = .ok r.size w ∧ (∃ z, (zeroValue t).run P w = .ok z w ∧ ∀ env, Dens env r.zero z.cells.toList ∧ aggV z = r.agg) ∧ (∃ d, (underlying t).run P w = .ok d w ∧ isAggD d = r.agg ∧ KindOK P r.k d) ∧ (isAgg t).run P w = .ok r.agg w := by
 obtain ⟨⟨i, z, h1, h2, h3, ha, h4, _⟩, ⟨d, h5, h6, h7⟩, _⟩ := hT t r h
 refine ⟨by simp [sizeOf, typeInfo, h1, h2], ⟨z, by simp [zeroValue, typeInfo, h1, h3], fun env => ⟨h4 env, ha⟩⟩, ⟨d, run_underlying h5 w, h6, h7⟩, ?_⟩
 unfold isAgg
 simp only [Sem.run_bind, run_underlying h5, Result.andThen_ok]
 rw [← h6]
 unfold isAggD
 cases d <;> rfl
theorem kind_run {P : Program} {T : Tab} (hT : TabOK P T) {t : Nat} {k : TK} (h : kindOf T t = k) (hk : k ≠ .other) (w : World) : ∃ d, (underlying t).run P w = .ok d w ∧ KindOK P k d :=
 let ⟨d, h1, h2⟩ := kindOf_ok hT h hk; ⟨d, run_underlying h1 w, h2⟩
theorem kind_iface {P : Program} {k : TK} {m : Array (String × TypeId)} (h : KindOK P k (.interface m)) : ∃ l, k = .iface l := by
 cases k <;> simp only [KindOK] at h
 ·cases h
 ·cases h
 ·cases h
 ·obtain ⟨_, h, _⟩ := h; cases h
 ·cases h
 ·cases h
 ·obtain ⟨_, h, _⟩ := h; cases h
 ·cases h.1
 ·exact ⟨_, rfl⟩
 ·exact absurd rfl (h m)
theorem optE_holds {o : Option AV} {v : AV} (h : (optE o).Holds v) : o = some v := by
 cases o <;> simp [optE, E.Holds] at h; rw [h]
theorem aUn_ok {P : Program} {w : World} {env : Env} {op : UnOp} {x v : AV} {y : Value} (hd : Den env x y) (h : (aUn op x).Holds v) : ∃ z, (Op.unary op y).run P w = .ok z w ∧ Den env v z := by
 unfold aUn at h
 split at h
 ·simp only [E.Holds] at h; simp only [Den] at hd; subst hd; subst h; simp [Op.unary, Den]
 ·simp only [E.Holds] at h; simp only [Den] at hd; subst hd; subst h; simp [Op.unary, Op.intArith, Den]
 ·exact h.elim
theorem aBin_ok {P : Program} {T : Tab} (hT : TabOK P T) {w : World} {env : Env} {op : BinOp} {t : Nat} {x y : AV} {xo yo : Operand} {v : AV} {a b : Value} {fr : Fr}
  (hy : ev fr yo = some y) (ha : Den env x a) (hb : Den env y b) (h : (aBin T op t x y yo).Holds v) :
  ∃ r, (do eqGuard op t xo yo a b; binOp op t a b : Sem Value).run P w = .ok r w ∧ Den env v r := by
 have fin : (∃ r, (binOp op t a b).run P w = .ok r w ∧ ∀ env, Den env v r) → (∀ l m, ¬ (a = .agg l ∧ b = .agg m)) → (b = .nilIface → isC yo = true) →
   ∃ r, (do eqGuard op t xo yo a b; binOp op t a b : Sem Value).run P w = .ok r w ∧ Den env v r := by
  rintro ⟨r, h1, h2⟩ h3 h4
  exact ⟨r, by simp [eqGuard_ok h3 h4, h1], h2 env⟩
 unfold aBin at h
 split at h
 ·split at h
  ·simp only [Den] at ha hb; subst ha; subst hb
   exact fin (aShift_ok (.inl rfl) (fun h => natC_nn h hy) h) (by simp) (by simp)
  ·exact h.elim
 ·split at h
  ·simp only [Den] at ha hb; subst ha; subst hb
   exact fin (aShift_ok (.inr rfl) (fun h => natC_nn h hy) h) (by simp) (by simp)
  ·exact h.elim
 ·rename_i hn1 hn2
  split at h
  ·split at h
   ·rename_i hk
    have hk := IntKind.same_eq hk
    simp only [Den] at ha hb; subst ha; subst hb; subst hk
    exact fin (aInt_ok (fun h => posC_ne h hy) (fun e => hn1 e) (fun e => hn2 e) h) (by simp) (by simp)
   ·exact h.elim
  ·simp only [Den] at ha hb; subst ha; subst hb
   exact fin (aStr_ok h) (by simp) (by simp)
  ·split at h
   ·obtain ⟨r, h1, rfl, h3, h4⟩ := aEq_ok (P := P) (w := w) hT ha hb h
    exact fin ⟨_, h1, fun _ => by simp [Den]⟩ h3 h4
   ·obtain ⟨r, h1, rfl, h3, h4⟩ := aEq_ok (P := P) (w := w) hT ha hb h
    exact fin ⟨_, h1, fun _ => by simp [Den]⟩ h3 h4
   ·exact h.elim
theorem nth_den {env : Env} {l : List AV} {xs : List Value} {i : Nat} {v : AV} (h : Dens env l xs) (hn : nth l i = some v) : ∃ x, xs[i]? = some x ∧ Den env v x := by
 rw [nth_eq] at hn; exact h.get hn
theorem addr_add {b o n : Nat} : (⟨b, o, none⟩ : Addr).add n = ⟨b, o + n, none⟩ := by
 unfold Addr.add
 split
 ·rename_i h; subst h; rfl
 ·rfl
theorem sliceE_ok {P : Program} {w : World} {env : Env} {s : ByteArray} {l h : Option AV} {lv hv : Option Value} {v : AV} {t : Nat} (ht : P.underlying t = some .string)
  (hl : ∀ x, l = some x → ∃ y, lv = some y ∧ Den env x y) (hln : l = none → lv = none) (hh : ∀ x, h = some x → ∃ y, hv = some y ∧ Den env x y) (hhn : h = none → hv = none)
  (he : (sliceE s l h).Holds v) : ∃ z, (Instr.sliceAt t (.string s) lv hv none).run P w = .ok z w ∧ Den env v z := by
 unfold sliceE at he
 split at he
 ·simp only [E.Holds] at he; subst he
  rw [hln rfl, hhn rfl]
  refine ⟨.string s, ?_, by simp [Den]⟩
  simp [Instr.sliceAt, Instr.slice, Instr.sliceBounds, run_underlying ht]
 ·rename_i k n
  obtain ⟨y, rfl, hd⟩ := hl _ rfl
  simp only [Den] at hd; subst hd
  simp only [E.Holds] at he
  obtain ⟨⟨h1, h2⟩, rfl⟩ := he
  rw [hhn rfl]
  refine ⟨_, ?_, by simp [Den]; rfl⟩
  simp [Instr.sliceAt, Instr.slice, Instr.sliceBounds, Instr.sliceBound, asIntOf, run_underlying ht, h1, h2, subB_eq]
 ·rename_i k n
  obtain ⟨y, rfl, hd⟩ := hh _ rfl
  simp only [Den] at hd; subst hd
  simp only [E.Holds] at he
  obtain ⟨⟨h1, h2⟩, rfl⟩ := he
  rw [hln rfl]
  refine ⟨_, ?_, by simp [Den]; rfl⟩
  simp [Instr.sliceAt, Instr.slice, Instr.sliceBounds, Instr.sliceBound, asIntOf, run_underlying ht, h1, h2, subB_eq]
 ·rename_i k n k' m
  obtain ⟨y, rfl, hd⟩ := hl _ rfl
  obtain ⟨y', rfl, hd'⟩ := hh _ rfl
  simp only [Den] at hd hd'; subst hd; subst hd'
  simp only [E.Holds] at he
  obtain ⟨⟨h1, h2, h3⟩, rfl⟩ := he
  refine ⟨_, ?_, by simp [Den]; rfl⟩
  have h4 : 0 ≤ m := by omega
  have h5 : (m.toNat : Int) = m := by omega
  simp [Instr.sliceAt, Instr.slice, Instr.sliceBounds, Instr.sliceBound, asIntOf, run_underlying ht, h1, h2, h3, h4, h5, subB_eq]
 ·exact he.elim
theorem evo_den {env : Env} {o : Oper} {fr : Fr} {a : Act} (hn : Need env o fr a) {x : Option Operand} {v : Option AV} (hx : ∀ y, x = some y → y ∈ o.op.operands) (h : evo fr x = some v) :
  (∀ u, v = some u → ∃ y, x.map a.eval = some y ∧ Den env u y) ∧ (v = none → x.map a.eval = none) := by
 cases x with
 | none => simp only [evo, Option.some.injEq] at h; subst h; simp
 | some y =>
  unfold evo at h
  simp only at h
  split at h
  ·rename_i u hu
   cases h
   refine ⟨fun u' e => ?_, by simp⟩
   cases e
   exact ⟨_, rfl, ev_den hn (hx y rfl) hu⟩
  ·cases h
theorem run_mapM {P : Program} {w : World} {α β : Type} {f : α → Sem β} {g : α → β} : ∀ {l : List α}, (∀ x ∈ l, (f x).run P w = .ok (g x) w) → (l.mapM f).run P w = .ok (l.map g) w
 | [], _ => by simp
 | x :: l, h => by
  rw [List.mapM_cons]
  simp only [Sem.run_bind, h x List.mem_cons_self, Result.andThen_ok, run_mapM (fun y hy => h y (List.mem_cons_of_mem _ hy)), Sem.run_pure, List.map_cons]
theorem run_places {P : Program} {w : World} {fields : Array Field} {fs : List (Nat × Nat)} (h6 : fields.size = fs.length)
  (h7 : ∀ (i off sz : Nat), fs[i]? = some (off, sz) → ∃ (f : Field) (i' : TypeInfo), fields[i]? = some f ∧ f.offset = off ∧ P.info? f.type = some i' ∧ i'.size = sz ∧ sz ≠ 0) :
  (fields.mapM fun f => (do pure (f.offset, ← sizeOf f.type) : Sem (Nat × Nat))).run P w = .ok fs.toArray w := by
 rw [Array.mapM_eq_mapM_toList, Sem.run_map]
 have hsz : ∀ f ∈ fields.toList, ∃ i', P.info? f.type = some i' := by
  intro f hf
  obtain ⟨i, hi⟩ := List.getElem?_of_mem hf
  have hlt : i < fs.length := by
   rw [← h6]; exact getElem?_lt (by simpa using hi)
  rcases hp : fs[i] with ⟨off, sz⟩
  obtain ⟨f', i', h8, _, h9, _⟩ := h7 i off sz (by rw [List.getElem?_eq_getElem hlt, hp])
  rw [Array.getElem?_toList, h8] at hi; cases hi
  exact ⟨i', h9⟩
 rw [run_mapM (g := fun f => (f.offset, P.cellsOf f.type)) (fun f hf => by
  obtain ⟨i', hi⟩ := hsz f hf
  simp [sizeOf, typeInfo, hi, Program.cellsOf])]
 simp only [Result.andThen_ok]
 congr 2
 apply List.ext_getElem?
 intro i
 rw [List.getElem?_map, Array.getElem?_toList]
 cases hp : fs[i]? with
 | none =>
  have : fields[i]? = none := by
   rw [Array.getElem?_eq_none_iff, h6]; exact List.getElem?_eq_none_iff.1 hp
  rw [this]; rfl
 | some p =>
  obtain ⟨off, sz⟩ := p
  obtain ⟨f, i', h8, h9, h10, h11, _⟩ := h7 i off sz hp
  rw [h8]; simp [h9, Program.cellsOf, h10, h11]
theorem field_place {P : Program} {w : World} {b o : Nat} {f : Field} {i' : TypeInfo} (h : P.info? f.type = some i') (hz : i'.size ≠ 0) : (fieldPlace ⟨b, o, none⟩ f).run P w = .ok ⟨b, o + f.offset, none⟩ w := by
 simp [fieldPlace, sizeOf, typeInfo, h, hz, addr_add]
theorem run_fieldAt {P : Program} {w : World} {t i b o off sz : Nat} {fields : Array Field} {fs : List (Nat × Nat)} (ht : (underlying t).run P w = .ok (.struct fields) w)
  (h7 : ∀ (i off sz : Nat), fs[i]? = some (off, sz) → ∃ (f : Field) (i' : TypeInfo), fields[i]? = some f ∧ f.offset = off ∧ P.info? f.type = some i' ∧ i'.size = sz ∧ sz ≠ 0)
  (hn : nth fs i = some (off, sz)) : (Instr.fieldAt t (.pointer (some ⟨b, o, none⟩)) i).run P w = .ok (.pointer (some ⟨b, o + off, none⟩)) w := by
 rw [nth_eq] at hn
 obtain ⟨f, i', h8, h9, h10, h11, h12⟩ := h7 i off sz hn
 simp [Instr.fieldAt, ht, h8, Instr.sureAddr, field_place h10 (by rw [h11]; exact h12), h9]
theorem zero_agg {z : List AV} {zv : Value} {env : Env} (h6 : Dens env z zv.cells.toList ∧ aggV zv = true) : Den env (.agg z) zv := by
 obtain ⟨h6, h7⟩ := h6
 cases zv <;> simp only [aggV] at h7 <;> try (cases h7; done)
 simp only [Den]
 exact ⟨_, rfl, by simpa [Value.cells] using h6⟩
theorem zero_one {z : AV} {zv : Value} {env : Env} (h6 : Dens env [z] zv.cells.toList ∧ aggV zv = false) : Den env z zv := by
 obtain ⟨h6, h7⟩ := h6
 have : zv.cells = #[zv] := by cases zv <;> first | rfl | (cases h7; done)
 rw [this] at h6
 simp only [Dens] at h6
 obtain ⟨y, ys, h8, h9, rfl⟩ := h6
 simp at h8; subst h8; exact h9
theorem aOp_ok {P : Program} {T : Tab} (hT : TabOK P T) {fr : Fr} {o : Oper} {v : AV} (h : (aOp T fr o.op).Holds v) {env : Env} {a : Act} {w : World} (hn : Need env o fr a) :
  ∃ x, (execOp a.eval o).run P w = .ok (.value x) w ∧ Den env v x := by
 obtain ⟨dst, op, ty, pos, after, guard⟩ := o
 have hev : ∀ {x : Operand} {u : AV}, x ∈ op.operands → ev fr x = some u → Den env u (a.eval x) := fun hx he => ev_den hn hx he
 cases op <;> (try (exact h.elim))
 case move x =>
  simp only [aOp] at h
  exact ⟨a.eval x, rfl, hev (by simp [Op.operands]) (optE_holds h)⟩
 case assign x =>
  simp only [aOp] at h
  exact ⟨a.eval x, rfl, hev (by simp [Op.operands]) (optE_holds h)⟩
 case build t ps =>
  simp only [aOp] at h
  split at h
  ·rename_i sz z fs fl ag vs hr hv
   split at h
   ·rename_i cs hf
    simp only [E.Holds] at h; subst h
    obtain ⟨h1, ⟨zv, h2, h3⟩, ⟨d, h4, h5, fields, rfl, ⟨h6, _⟩, h7⟩, _⟩ := row_info hT hr w
    have hp := evps_den hn (by intro p hp; simp only [Op.operands]; simp; exact ⟨p.1, by simpa using hp⟩) hv
    obtain ⟨ys, h8, h9⟩ := fill_ok (place := nth fs) hp (h3 env).1 hf
    refine ⟨.agg ys, ?_, by simp only [Den]; exact ⟨ys, rfl, h9⟩⟩
    have hmap := run_places (P := P) (w := w) h6 h7
    have hpl : (fun i => fs.toArray[i]?) = nth fs := by funext i; rw [nth_eq]; simp
    simp only [execOp, Instr.build, Sem.run_bind, h2, h4, Result.andThen_ok, hmap, Array.toList_map, hpl, h8, Sem.run_pure]
   ·exact h.elim
  ·rename_i sz z n e vs hr hv
   split at h
   ·rename_i ag sz' z' k' hre
    split at h
    ·rename_i cs hf
     simp only [E.Holds] at h; subst h
     obtain ⟨h1, ⟨zv, h2, h3⟩, ⟨d, h4, h5, h6⟩, _⟩ := row_info hT hr w
     simp only [KindOK] at h6; subst h6
     have hse := (row_info hT hre w).1
     have hp := evps_den hn (by intro p hp; simp only [Op.operands]; simp; exact ⟨p.1, by simpa using hp⟩) hv
     obtain ⟨ys, h8, h9⟩ := fill_ok (place := fun i => some (i * sz', sz')) hp (h3 env).1 hf
     refine ⟨.agg ys, ?_, by simp only [Den]; exact ⟨ys, rfl, h9⟩⟩
     simp only [execOp, Instr.build, Sem.run_bind, h2, h4, Result.andThen_ok, hse, Array.toList_map, h8, Sem.run_pure]
    ·exact h.elim
   ·exact h.elim
  ·exact h.elim
 case nilCheck x =>
  simp only [aOp] at h
  split at h <;> (try (exact h.elim)) <;> rename_i he <;> simp only [E.Holds] at h <;> subst h
  all_goals
   have hd := hev (by simp [Op.operands]) he
   have hd' := hd
   simp only [Den] at hd
  ·obtain ⟨b, _, hx⟩ := hd; exact ⟨a.eval x, by simp [execOp, hx], hd'⟩
  ·obtain ⟨b, o, l, c, _, hx⟩ := hd; exact ⟨a.eval x, by simp [execOp, hx], hd'⟩
  ·obtain ⟨y, hx, _⟩ := hd; exact ⟨a.eval x, by simp [execOp, hx], hd'⟩
  ·obtain ⟨xs, ys, hx, _, _⟩ := hd; exact ⟨a.eval x, by simp [execOp, hx], hd'⟩
 case binOp op t x y yt =>
  simp only [aOp] at h
  split at h
  ·rename_i v1 v2 h1 h2
   obtain ⟨r, h3, h4⟩ := aBin_ok hT (w := w) (xo := x) h2 (hev (by simp [Op.operands]) h1) (hev (by simp [Op.operands]) h2) h
   refine ⟨r, ?_, h4⟩
   show (do pure (Next.value (← (do eqGuard op t x y (a.eval x) (a.eval y); binOp op t (a.eval x) (a.eval y) : Sem Value))) : Sem Next).run P w = _
   rw [Sem.run_bind, h3]; rfl
  ·exact h.elim
 case unOp op t x =>
  simp only [aOp] at h
  split at h
  ·rename_i v1 h1
   obtain ⟨r, h3, h4⟩ := aUn_ok (P := P) (w := w) (hev (by simp [Op.operands]) h1) h
   exact ⟨r, by simp [execOp, h3], h4⟩
  ·exact h.elim
 case convert s d x =>
  simp only [aOp] at h
  split at h <;> (try (exact h.elim)) <;> simp only [E.Holds] at h <;> subst h
  ·rename_i k1 k2 k3 n h1 h2 h3
   obtain ⟨d1, e1, rfl⟩ := kind_run hT h1 (by simp) w
   obtain ⟨d2, e2, rfl⟩ := kind_run hT h2 (by simp) w
   have hd := hev (by simp [Op.operands]) h3
   simp only [Den] at hd
   exact ⟨.int k2 (k2.wrap n), by simp [execOp, convert, e1, e2, hd, Conv.intToInt], by simp [Den]⟩
  ·rename_i s1 h1 h2 h3
   obtain ⟨d1, e1, rfl⟩ := kind_run hT h1 (by simp) w
   obtain ⟨d2, e2, rfl⟩ := kind_run hT h2 (by simp) w
   have hd := hev (by simp [Op.operands]) h3
   simp only [Den] at hd
   exact ⟨.string s1, by simp [execOp, convert, e1, e2, hd], by simp [Den]⟩
 case makeInterface t x =>
  simp only [aOp] at h
  split at h
  ·exact h.elim
  ·rename_i r v1 hni hr h1
   simp only [E.Holds] at h; subst h
   obtain ⟨_, _, ⟨d, h4, h5, h6⟩, _⟩ := row_info hT hr w
   have hd := hev (by simp [Op.operands]) h1
   refine ⟨.iface t (a.eval x), ?_, by simp only [Den]; exact ⟨_, rfl, hd⟩⟩
   have hk : ∀ m, d ≠ .interface m := by
    intro m e
    subst e
    obtain ⟨ag, sz, z, k⟩ := r
    obtain ⟨l, this⟩ := kind_iface h6; simp only at this; subst this; exact hni _ _ _ _ rfl
   simp only [execOp, Instr.makeInterface, Sem.run_bind, h4, Result.andThen_ok]
   cases d <;> first | rfl | (exact absurd rfl (hk _))
  ·exact h.elim
 case makeFunc f l m =>
  simp only [aOp] at h
  split at h
  ·rename_i vs us h1 h2
   simp only [E.Holds] at h; subst h
   have d1 := evs_den hn (by intro x hx; simp only [Op.operands]; exact Array.mem_append.2 (.inl (by simpa using hx))) h1
   have d2 := evs_den hn (by intro x hx; simp only [Op.operands]; exact Array.mem_append.2 (.inr (by simpa using hx))) h2
   exact ⟨.func f (l.map a.eval) (m.map a.eval), by simp [execOp, Instr.makeFunc], by simp only [Den]; exact ⟨_, _, rfl, by simpa using d1, by simpa using d2⟩⟩
  ·exact h.elim
 case fieldAddr t x i =>
  simp only [aOp] at h
  split at h
  ·rename_i fs fl ag hh k hk he
   split at h
   ·rename_i off sz hf
    simp only [E.Holds] at h; subst h
    obtain ⟨d, h4, fields, rfl, h6, h7⟩ := kind_run hT hk (by simp) w
    have hd := hev (by simp [Op.operands]) he
    simp only [Den] at hd
    obtain ⟨b, hb, hx⟩ := hd
    exact ⟨.pointer (some ⟨b, k + off, none⟩), by simp [execOp, hx, run_fieldAt h4 h7 hf], by simp only [Den]; exact ⟨b, hb, rfl⟩⟩
   ·exact h.elim
  ·rename_i fs fl ag hh z j k hk he
   split at h
   ·rename_i off sz hf
    simp only [E.Holds] at h; subst h
    obtain ⟨d, h4, fields, rfl, h6, h7⟩ := kind_run hT hk (by simp) w
    have hd := hev (by simp [Op.operands]) he
    simp only [Den] at hd
    obtain ⟨b, o, l, c, hb, hx⟩ := hd
    exact ⟨.pointer (some ⟨b, o + (j * z + k) + off, none⟩), by simp [execOp, hx, run_fieldAt h4 h7 hf], by simp only [Den]; exact ⟨b, o, l, c, hb, by rw [Nat.add_assoc, Nat.add_assoc]⟩⟩
   ·exact h.elim
  ·exact h.elim
 case field t x i =>
  simp only [aOp] at h
  split at h
  ·rename_i fs fl ag l hk he
   obtain ⟨d, h4, fields, rfl, ⟨h6, h8⟩, h7⟩ := kind_run hT hk (by simp) w
   have hd := hev (by simp [Op.operands]) he
   simp only [Den] at hd
   obtain ⟨xs, hx, hds⟩ := hd
   unfold fldA at h
   split at h
   ·rename_i off sz hf hg
    obtain ⟨f, i', g1, g2, g3, g4, g5⟩ := h7 i off sz (by rw [← nth_eq]; exact hf)
    obtain ⟨f2, d2, q1, q2, q3⟩ := h8 i false (by rw [← nth_eq]; exact hg)
    rw [g1] at q1; cases q1
    cases hn : nth l off with
    | none => rw [hn] at h; exact h.elim
    | some y =>
     rw [hn] at h
     have h : _ = y := h
     subst h
     obtain ⟨z, hz, hzd⟩ := (dens_iff.1 hds).2 off _ (by rw [← nth_eq]; exact hn)
     refine ⟨z, ?_, hzd⟩
     have hz' : xs[off]? = some z := by simpa using hz
     have hq : (isAgg f.type).run P w = .ok (isAggD d2) w := by rw [isAgg_run q2]; cases d2 <;> rfl
     simp [execOp, Instr.field, h4, g1, hx, asAgg, part, hq, q3, g2, hz']
   ·rename_i off sz hf hg
    obtain ⟨f, i', g1, g2, g3, g4, g5⟩ := h7 i off sz (by rw [← nth_eq]; exact hf)
    obtain ⟨f2, d2, q1, q2, q3⟩ := h8 i true (by rw [← nth_eq]; exact hg)
    rw [g1] at q1; cases q1
    have h : _ = AV.agg ((l.drop off).take sz) := h
    subst h
    have hq : (isAgg f.type).run P w = .ok (isAggD d2) w := by rw [isAgg_run q2]; cases d2 <;> rfl
    refine ⟨.agg (xs.extract off (off + sz)), ?_, ?_⟩
    ·simp [execOp, Instr.field, h4, g1, hx, asAgg, part, hq, q3, g2, sizeOf, typeInfo, g3, g4]
    ·simp only [Den]
     refine ⟨_, rfl, ?_⟩
     have := (hds.drop off).take sz
     simpa [Array.toList_extract, List.extract_eq_take_drop] using this
   ·exact h.elim
  ·exact h.elim
 case extract x i =>
  simp only [aOp] at h
  split at h
  ·rename_i l he
   have hd := hev (by simp [Op.operands]) he
   simp only [Den] at hd
   obtain ⟨xs, hx, hds⟩ := hd
   obtain ⟨y, h1, h2⟩ := nth_den hds (optE_holds h)
   exact ⟨y, by simp [execOp, Instr.extract, hx, by simpa using h1], h2⟩
  ·exact h.elim
 case indexAddr t x i =>
  simp only [aOp] at h
  split at h
  ·rename_i e hh len k n hk hx hi
   split at h
   ·rename_i ag sz z k' hre
    simp only [E.Holds] at h
    obtain ⟨⟨g1, g2⟩, rfl⟩ := h
    obtain ⟨d, h4, rfl⟩ := kind_run hT hk (by simp) w
    have hse := (row_info hT hre w).1
    have d1 := hev (by simp [Op.operands]) hx
    have d2 := hev (by simp [Op.operands]) hi
    simp only [Den] at d1 d2
    obtain ⟨hb, p, cap, hx, hp⟩ := d1
    obtain ⟨b, o, rfl⟩ := hp (by omega)
    refine ⟨.pointer (some ⟨b, o + n.toNat * sz, none⟩), ?_, by simp only [Den]; exact ⟨b, o, len, cap, by rw [hb, hx], rfl⟩⟩
    simp [execOp, Instr.indexAt, asIntOf, d2, h4, hx, g1, g2, hse, addr_add]
   ·exact h.elim
  ·rename_i m e hh off k n hk hx hi
   split at h
   ·rename_i ag sz z k' hre
    simp only [E.Holds] at h
    obtain ⟨⟨g1, g2⟩, rfl⟩ := h
    obtain ⟨d, h4, rfl⟩ := kind_run hT hk (by simp) w
    have hse := (row_info hT hre w).1
    have d1 := hev (by simp [Op.operands]) hx
    have d2 := hev (by simp [Op.operands]) hi
    simp only [Den] at d1 d2
    obtain ⟨b, hb, hx⟩ := d1
    refine ⟨.pointer (some ⟨b, off + n.toNat * sz, none⟩), ?_, by simp only [Den]; exact ⟨b, hb, rfl⟩⟩
    simp [execOp, Instr.indexAt, asIntOf, d2, h4, hx, Instr.sureAddr, g1, g2, hse, addr_add]
   ·exact h.elim
  ·exact h.elim
 case index t x i =>
  simp only [aOp] at h
  split at h
  ·rename_i s k n hk hx hi
   simp only [E.Holds] at h
   obtain ⟨⟨g1, g2⟩, rfl⟩ := h
   obtain ⟨d, h4, rfl⟩ := kind_run hT hk (by simp) w
   have d1 := hev (by simp [Op.operands]) hx
   have d2 := hev (by simp [Op.operands]) hi
   simp only [Den] at d1 d2
   have hlt : n.toNat < s.size := by omega
   have hg : s[n.toNat]? = some (s[n.toNat]'hlt) := by simp [hlt]
   refine ⟨.int .u8 (byteAt s n), ?_, by simp [Den]⟩
   simp [execOp, Instr.index, asIntOf, d1, d2, h4, g1, hg, byteAt]
  ·exact h.elim
 case slice t x lo hi mx =>
  cases mx with
  | some m => exact h.elim
  | none =>
   simp only [aOp] at h
   split at h
   ·rename_i s l u hk hx hl hu
    obtain ⟨d, h4, h5⟩ := kindOf_ok hT hk (by simp)
    simp only [KindOK] at h5; subst h5
    have d1 := hev (by simp [Op.operands]) hx
    simp only [Den] at d1
    have k1 := evo_den hn (by intro y hy; subst hy; simp [Op.operands]) hl
    have k2 := evo_den hn (by intro y hy; subst hy; simp [Op.operands]) hu
    obtain ⟨z, g1, g2⟩ := sliceE_ok (P := P) (w := w) (env := env) (t := t) h4 k1.1 k1.2 k2.1 k2.2 h
    exact ⟨z, by simp [execOp, d1, g1], g2⟩
   ·exact h.elim
 case typeAssert x xt t ok =>
  simp only [aOp] at h
  have zer : ∀ {ag : Bool} {sz : Nat} {z : List AV} {k : TK}, T t = some ⟨ag, sz, z, k⟩ → ∃ zv, (zeroValue t).run P w = .ok zv w ∧ Dens env z zv.cells.toList ∧ aggV zv = ag := by
   intro ag sz z k hr
   obtain ⟨_, ⟨zv, h2, h3⟩, _⟩ := row_info hT hr w
   exact ⟨zv, h2, h3 env⟩
  have und : ∀ {r : TRow}, T t = some r → (∀ ag sz z l, r ≠ ⟨ag, sz, z, .iface l⟩) → ∃ d, (underlying t).run P w = .ok d w ∧ ∀ m, d ≠ .interface m := by
   intro r hr hni
   obtain ⟨_, _, ⟨d, h4, h5, h6⟩, _⟩ := row_info hT hr w
   refine ⟨d, h4, ?_⟩
   intro m e
   subst e
   obtain ⟨ag, sz, z, k⟩ := r
   obtain ⟨l, this⟩ := kind_iface h6; simp only at this; subst this; exact hni _ _ _ _ rfl
  split at h
  ·rename_i ag sz z l hr
   obtain ⟨i0, ⟨zv, h2, h3⟩, ⟨d, h4, h5, h6⟩, i9⟩ := row_info hT hr w
   unfold ifaceA at h
   split at h
   ·rename_i z t' v1 he
    split at h
    ·rename_i hm
     simp only [E.Holds] at h; subst h
     have hd := hev (by simp [Op.operands]) he
     simp only [Den] at hd
     obtain ⟨y, hx, hy⟩ := hd
     obtain ⟨m, rfl, hl⟩ := h6
     have hag : false = ag := h5
     subst hag
     obtain ⟨zw, g1, g2⟩ := zer hr
     obtain ⟨i, hi, hl'⟩ := Option.map_eq_some_iff.1 (hl t' (memNs_ok hm))
     obtain ⟨mm, hmm⟩ := missingMethod_some (want := m) (got := i.methods) (fun e => by rw [e] at hl'; cases hl')
     refine ⟨.tuple #[zw, .bool false], ?_, by simp only [Den]; exact ⟨_, rfl, by simp [Dens, Den, zero_one g2]⟩⟩
     simp [execOp, Instr.typeAssert, h4, hx, typeInfo, hi, hmm, g1]
    ·exact h.elim
   ·exact h.elim
  ·rename_i ag sz z k t' v1 hni hr he
   obtain ⟨d, h4, hdi⟩ := und hr (by rintro a' b' c' l' e; cases e; exact hni _ rfl)
   obtain ⟨zv, h5, h6⟩ := zer hr
   have hd := hev (by simp [Op.operands]) he
   simp only [Den] at hd
   obtain ⟨y, hx, hy⟩ := hd
   split at h
   ·rename_i hb
    have hb := Nat.eq_of_beq_eq_true hb
    subst hb
    simp only [E.Holds] at h; subst h
    refine ⟨.tuple #[y, .bool true], ?_, by simp only [Den]; exact ⟨_, rfl, by simp [Dens, Den, hy]⟩⟩
    simp only [execOp, Instr.typeAssert, Sem.run_bind, h4, Result.andThen_ok, hx]
    cases d <;> first | (simp; done) | (exact absurd rfl (hdi _))
   ·rename_i hb
    have hne : t' ≠ t := by rintro rfl; simp [Nat.beq_refl] at hb
    have fin : ∀ {u : AV}, Den env u zv → ∃ x_1, (execOp a.eval ⟨dst, .typeAssert x xt t true, ty, pos, after, guard⟩).run P w = .ok (.value x_1) w ∧ Den env (.tup [u, .bool false]) x_1 := by
     intro u hu
     refine ⟨.tuple #[zv, .bool false], ?_, by simp only [Den]; exact ⟨_, rfl, by simp [Dens, Den, hu]⟩⟩
     simp only [execOp, Instr.typeAssert, Sem.run_bind, h4, Result.andThen_ok, hx]
     cases d <;> first | (simp [hne, h5]; done) | (exact absurd rfl (hdi _))
    split at h
    ·simp only [E.Holds] at h; subst h
     exact fin (zero_agg h6)
    ·simp only [E.Holds] at h; subst h
     exact fin (zero_one h6)
    ·exact h.elim
  ·rename_i ag sz z k hni hr he
   obtain ⟨d, h4, hdi⟩ := und hr (by rintro a' b' c' l' e; cases e; exact hni _ rfl)
   obtain ⟨zv, h5, h6⟩ := zer hr
   have hd := hev (by simp [Op.operands]) he
   simp only [Den] at hd
   have fin : ∀ {u : AV}, Den env u zv → ∃ x_1, (execOp a.eval ⟨dst, .typeAssert x xt t true, ty, pos, after, guard⟩).run P w = .ok (.value x_1) w ∧ Den env (.tup [u, .bool false]) x_1 := by
    intro u hu
    refine ⟨.tuple #[zv, .bool false], ?_, by simp only [Den]; exact ⟨_, rfl, by simp [Dens, Den, hu]⟩⟩
    simp only [execOp, Instr.typeAssert, Sem.run_bind, h4, Result.andThen_ok, hd]
    cases d <;> first | (simp [h5]; done) | (exact absurd rfl (hdi _))
   split at h
   ·simp only [E.Holds] at h; subst h
    exact fin (zero_agg h6)
   ·simp only [E.Holds] at h; subst h
    exact fin (zero_one h6)
   ·exact h.elim
  ·rename_i r t' v1 hni hr he
   obtain ⟨d, h4, hdi⟩ := und hr (by rintro a' b' c' l' e; exact hni _ _ _ _ e)
   have hd := hev (by simp [Op.operands]) he
   simp only [Den] at hd
   obtain ⟨y, hx, hy⟩ := hd
   split at h
   ·rename_i hb
    have hb := Nat.eq_of_beq_eq_true hb
    subst hb
    simp only [E.Holds] at h; subst h
    refine ⟨y, ?_, hy⟩
    simp only [execOp, Instr.typeAssert, Sem.run_bind, h4, Result.andThen_ok, hx]
    cases d <;> first | (simp; done) | (exact absurd rfl (hdi _))
   ·exact h.elim
  ·exact h.elim
 case call c =>
  obtain ⟨cal, xs, ts⟩ := c
  cases cal with
  | value f => exact h.elim
  | invoke r m => exact h.elim
  | builtin b =>
   have ops : ∀ x ∈ xs.toList, x ∈ (Op.call { callee := .builtin b, args := xs, argTypes := ts }).operands := by
    intro x hx; simp only [Op.operands, Call.operands]; simpa using hx
   cases b <;> (try (exact h.elim))
   case len =>
    simp only [aOp] at h
    split at h
    ·rename_i x t hxs hts
     have hx1 : xs = #[x] := by apply Array.ext'; simpa using hxs
     have ht1 : ts = #[t] := by apply Array.ext'; simpa using hts
     subst hx1; subst ht1
     split at h <;> (try (exact h.elim)) <;> simp only [E.Holds] at h <;> subst h
     ·rename_i s hk he
      obtain ⟨d, h4, rfl⟩ := kind_run hT hk (by simp) w
      have d1 := hev (ops x (by simp)) he
      simp only [Den] at d1
      exact ⟨.int .i64 s.size, by simp [execOp, resolve, invoke, builtin, Builtin.len_, d1, h4, goInt], by simp [Den]⟩
     ·rename_i e hh n hk he
      obtain ⟨d, h4, rfl⟩ := kind_run hT hk (by simp) w
      have d1 := hev (ops x (by simp)) he
      simp only [Den] at d1
      obtain ⟨_, p, cap, d1, _⟩ := d1
      exact ⟨.int .i64 n, by simp [execOp, resolve, invoke, builtin, Builtin.len_, d1, h4, goInt], by simp [Den]⟩
     ·rename_i e hk he
      obtain ⟨d, h4, rfl⟩ := kind_run hT hk (by simp) w
      have d1 := hev (ops x (by simp)) he
      simp only [Den] at d1
      exact ⟨.int .i64 0, by simp [execOp, resolve, invoke, builtin, Builtin.len_, d1, h4, goInt], by simp [Den]⟩
    ·exact h.elim
   case max =>
    simp only [aOp] at h
    split at h
    ·rename_i k a1 k2 b1 he
     simp only [E.Holds] at h; subst h
     have d1 := evs_den hn ops he
     simp only [Dens, Den] at d1
     obtain ⟨y, ys, e1, rfl, y2, ys2, e2, rfl, rfl⟩ := d1
     subst e2
     refine ⟨.int k (max a1 b1), ?_, by simp [Den]⟩
     have e4 : (if b1 > a1 then b1 else a1) = max a1 b1 := by split <;> omega
     simp [execOp, resolve, invoke, builtin, Builtin.max_, e1, Builtin.max2, e4]
    ·exact h.elim
   case min =>
    simp only [aOp] at h
    split at h
    ·rename_i k a1 k2 b1 he
     simp only [E.Holds] at h; subst h
     have d1 := evs_den hn ops he
     simp only [Dens, Den] at d1
     obtain ⟨y, ys, e1, rfl, y2, ys2, e2, rfl, rfl⟩ := d1
     subst e2
     refine ⟨.int k (min a1 b1), ?_, by simp [Den]⟩
     have e4 : (if b1 < a1 then b1 else a1) = min a1 b1 := by split <;> omega
     simp [execOp, resolve, invoke, builtin, Builtin.min_, e1, Builtin.min2, e4]
    ·exact h.elim
end
end Go.SX
-- MERGED
-- SQUEEZED
