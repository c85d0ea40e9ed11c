/- SX, part E: the table of types, and the operations that only compute. -/
import Derived.Test.YthmiaipampdegaaGreatDoorSXDE
import Derived.Laws.StructEq
import Derived.Laws.Tables
import Derived.Laws.CopyRow
namespace Go.SX
noncomputable section

inductive TK where
  | int (k : IntKind) | bool | str
  | struct (fs : List (Nat × Nat)) (fl : List LK)
  | arr (n e : Nat)
  | slice (e : Nat)
  | ptr (e : Nat)
  | map (k e : Nat) (fl : List LK)
  | iface | other

structure TRow where
  agg : Bool
  size : Nat
  zero : List AV
  k : TK

abbrev Tab := Nat → Option TRow

def isAggD : TypeDesc → Bool
  | .struct _ | .array _ _ => true
  | _ => false

def KindOK (P : Program) : TK → TypeDesc → Prop
  | .int k, d => d = .int k
  | .bool, d => d = .bool
  | .str, d => d = .string
  | .struct fs _, d => ∃ fields : Array Field, d = .struct fields ∧ fields.size = fs.length ∧
      ∀ (i off sz : Nat), fs[i]? = some (off, sz) → ∃ (f : Field) (i' : TypeInfo), fields[i]? = some f ∧ f.offset = off ∧ P.info? f.type = some i' ∧ i'.size = sz ∧ sz ≠ 0
  | .arr n e, d => d = .array n e
  | .slice e, d => d = .slice e
  | .ptr e, d => ∃ (i : TypeInfo), d = .pointer e ∧ P.info? e = some i ∧ i.size ≠ 0
  | .map k e fl, d => d = .map k e ∧ flatT P 100 k = some fl
  | .iface, d => ∃ m, d = .interface m
  | .other, d => ∀ m, d ≠ .interface m

def aggV : Value → Bool
  | .agg _ => true
  | _ => false

structure RowOK (P : Program) (t : Nat) (r : TRow) : Prop where
  info : ∃ (i : TypeInfo) (z : Value), P.info? t = some i ∧ i.size = r.size ∧ i.zero = some z ∧ aggV z = r.agg ∧ (∀ env, Dens env r.zero z.cells.toList) ∧ i.bytes ≤ 32 * i.size
  desc : ∃ d, P.underlying t = some d ∧ isAggD d = r.agg ∧ KindOK P r.k d
  flat : ∀ fs k fl, r.k = .struct fs (k :: fl) → flatT P 100 t = some (k :: fl) ∧ P.eqGuardType P.depth t = false

def TabOK (P : Program) (T : Tab) : Prop := ∀ t r, T t = some r → RowOK P t r

/-- A constant. -/
def ofV : Value → AV
  | .bool b => .bool b
  | .int k n => .int k n
  | .string s => .str s
  | .pointer none => .nilp
  | .slice none 0 0 => .nils
  | .map none => .nilm
  | .nilFunc => .nilf
  | .nilIface => .nili
  | v => .raw v

theorem ofV_den (env : Env) (v : Value) : Den env (ofV v) v := by
  unfold ofV; split <;> simp [Den]

def ev (fr : Fr) : Operand → Option AV
  | .tmp t => look fr t
  | .const v => some (ofV v)
  | .func f => some (.fn (.func f) [] [])
  | .global _ => none

/-- The temporaries that an operation needs. -/
def Need (env : Env) (o : Oper) (fr : Fr) (a : Act) : Prop := ∀ t ∈ opTmps o, ∀ v, look fr t = some v → ∃ x, a.tmps[t]? = some x ∧ Den env v x

theorem ev_den {env : Env} {o : Oper} {fr : Fr} {a : Act} {x : Operand} {v : AV} (hn : Need env o fr a) (hx : x ∈ o.op.operands) (h : ev fr x = some v) : Den env v (a.eval x) := by
  cases x with
  | tmp t =>
    have ht : t ∈ opTmps o := by
      unfold opTmps; rw [List.mem_filterMap]; exact ⟨.tmp t, Array.mem_toList_iff.2 hx, rfl⟩
    obtain ⟨y, hy, hd⟩ := hn t ht v h
    have : a.eval (.tmp t) = y := by simp [Act.eval, Array.getD_eq_getD_getElem?, hy]
    rw [this]; exact hd
  | const c => simp only [ev, Option.some.injEq] at h; subst h; exact ofV_den env c
  | func f => simp only [ev, Option.some.injEq] at h; subst h; simp [Den, Dens, Act.eval]
  | global g => simp [ev] at h

theorem Turn.refl (n : Nat) (R : Heap) (env : Env) (F : Foot) (w : World) : Turn n n R [] [] env F w env F w :=
  ⟨Env.le.refl _, fun _ _ => rfl, ⟨fun h => by simp [lookN, lookC] at h, fun h => by simp [lookN, lookC] at h⟩, fun h => by simp [lookN, lookC] at h, FrameW.refl _ _⟩

/-- An operation that yields a value and leaves the world alone. -/
theorem triple_val {P : Program} {o : Oper} {fr : Fr} {n : Nat} {val : AV}
    (h : ∀ env a w, Need env o fr a → ∃ x, (execOp a.eval o).run P w = .ok (.value x) w ∧ Den env val x) : Triple P o fr [] [] n n val [] := by
  intro env F a w next Q hn _ _ hk
  obtain ⟨x, hr, hd⟩ := h env a w hn
  unfold Oper.wp
  rw [hr]
  exact hk env F x w (Turn.refl _ _ _ _ _) hd

inductive E where
  | no
  | val (v : AV)
  | ob (p : Prop) (d : Decidable p) (v : AV)

def E.Holds : E → AV → Prop
  | .no, _ => False
  | .val v, u => u = v
  | .ob p _ v, u => p ∧ u = v

def big : Nat := 9223372036854775807

/-- Strings, by their bytes in a list. -/
def catB (x y : ByteArray) : ByteArray := ⟨⟨x.data.toList ++ y.data.toList⟩⟩
def subB (s : ByteArray) (l h : Nat) : ByteArray := ⟨⟨(s.data.toList.drop l).take (h - l)⟩⟩
def eqBs : List UInt8 → List UInt8 → Bool
  | [], [] => true
  | a :: l, b :: m => match Nat.beq a.toNat b.toNat with
    | true => eqBs l m
    | false => false
  | _, _ => false
def eqB (x y : ByteArray) : Bool := eqBs x.data.toList y.data.toList

theorem catB_eq (x y : ByteArray) : catB x y = x ++ y := by
  apply ByteArray.ext
  rw [ByteArray.data_append]
  apply Array.ext'
  simp [catB]

theorem subB_eq (s : ByteArray) (l h : Nat) : subB s l h = s.extract l h := by
  apply ByteArray.ext
  rw [ByteArray.data_extract]
  apply Array.ext'
  simp [subB, List.extract]

theorem eqBs_eq : ∀ (l m : List UInt8), eqBs l m = decide (l = m)
  | [], [] => by simp [eqBs]
  | [], _ :: _ => by simp [eqBs]
  | _ :: _, [] => by simp [eqBs]
  | a :: l, b :: m => by
    unfold eqBs
    cases h : Nat.beq a.toNat b.toNat with
    | true =>
      have := UInt8.toNat_inj.1 (Nat.eq_of_beq_eq_true h)
      subst this
      simp [eqBs_eq l m]
    | false =>
      have : a ≠ b := by rintro rfl; rw [Nat.beq_refl] at h; cases h
      simp [this]

theorem eqB_eq (x y : ByteArray) : eqB x y = decide (x = y) := by
  unfold eqB
  rw [eqBs_eq]
  by_cases h : x = y
  · subst h; simp
  · simp only [h, decide_false, decide_eq_false_iff_not]
    intro e
    exact h (ByteArray.ext (Array.ext' e))

def slt (x y : ByteArray) : Bool := Op.bytesLess x.data.toList y.data.toList
def sle (x y : ByteArray) : Bool := slt x y || eqB x y

def ibit (op : BinOp) (k : IntKind) (a b : Int) : Int :=
  match op with
  | .and => k.wrap (BitVec.ofInt k.bits a &&& BitVec.ofInt k.bits b).toNat
  | .or => k.wrap (BitVec.ofInt k.bits a ||| BitVec.ofInt k.bits b).toNat
  | .xor => k.wrap (BitVec.ofInt k.bits a ^^^ BitVec.ofInt k.bits b).toNat
  | _ => k.wrap (BitVec.ofInt k.bits a &&& ~~~ BitVec.ofInt k.bits b).toNat

def shlI (k : IntKind) (a b : Int) : Int := k.wrap (a * 2 ^ (min b.toNat k.bits))
def shrI (k : IntKind) (a b : Int) : Int := a.fdiv (2 ^ (min b.toNat k.bits))

def IntKind.same : IntKind → IntKind → Bool
  | .i8, .i8 | .i16, .i16 | .i32, .i32 | .i64, .i64 | .u8, .u8 | .u16, .u16 | .u32, .u32 | .u64, .u64 => true
  | _, _ => false

theorem IntKind.same_eq {j k : IntKind} (h : IntKind.same j k = true) : j = k := by cases j <;> cases k <;> first | rfl | (simp [IntKind.same] at h)

/-- A constant that is a positive number; one that is no negative one. -/
def posC : Operand → Bool
  | .const (.int _ (.ofNat (_ + 1))) => true
  | _ => false
def natC : Operand → Bool
  | .const (.int _ (.ofNat _)) => true
  | _ => false

def aInt (op : BinOp) (k : IntKind) (a b : Int) (pos : Bool) : E :=
  match op with
  | .add => .val (.int k (k.wrap (a + b)))
  | .sub => .val (.int k (k.wrap (a - b)))
  | .mul => .val (.int k (k.wrap (a * b)))
  | .quo => match pos with | true => .val (.int k (k.wrap (a.tdiv b))) | false => .ob (b ≠ 0) inferInstance (.int k (k.wrap (a.tdiv b)))
  | .rem => match pos with | true => .val (.int k (a.tmod b)) | false => .ob (b ≠ 0) inferInstance (.int k (a.tmod b))
  | .and => .val (.int k (ibit .and k a b))
  | .or => .val (.int k (ibit .or k a b))
  | .xor => .val (.int k (ibit .xor k a b))
  | .andNot => .val (.int k (ibit .andNot k a b))
  | .eql => .val (.bool (decide (a = b)))
  | .neq => .val (.bool (!decide (a = b)))
  | .lss => .val (.bool (decide (a < b)))
  | .leq => .val (.bool (decide (a ≤ b)))
  | .gtr => .val (.bool (decide (b < a)))
  | .geq => .val (.bool (decide (b ≤ a)))
  | _ => .no

def aStr (op : BinOp) (x y : ByteArray) : E :=
  match op with
  | .add => .ob (x.size + y.size ≤ big) inferInstance (.str (catB x y))
  | .eql => .val (.bool (eqB x y))
  | .neq => .val (.bool (!eqB x y))
  | .lss => .val (.bool (slt x y))
  | .leq => .val (.bool (sle x y))
  | .gtr => .val (.bool (!sle x y))
  | .geq => .val (.bool (!slt x y))
  | _ => .no

def aShift (op : BinOp) (k : IntKind) (a b : Int) (nat : Bool) : E :=
  match op with
  | .shl => match nat with | true => .val (.int k (shlI k a b)) | false => .ob (0 ≤ b) inferInstance (.int k (shlI k a b))
  | _ => match nat with | true => .val (.int k (shrI k a b)) | false => .ob (0 ≤ b) inferInstance (.int k (shrI k a b))

/-- A pointer: is it nil? An interface value: is it nil? -/
def nilP : AV → Option Bool
  | .nilp => some true
  | .ptr _ _ | .el _ _ _ _ => some false
  | _ => none
def nilI : AV → Option Bool
  | .nili => some true
  | .iface _ _ => some false
  | _ => none

def kindOf (T : Tab) (t : Nat) : TK := match T t with | some ⟨_, _, _, k⟩ => k | none => .other

def aEq (T : Tab) (t : Nat) (neg : Bool) (x y : AV) (yc : Bool) : E :=
  match x, y with
  | .bool a, .bool b => match kindOf T t with
    | .bool => .val (.bool (match neg with | true => !(a == b) | false => a == b))
    | _ => .no
  | x, .nilp => match kindOf T t, nilP x with
    | .ptr _, some b => .val (.bool (match neg with | true => !b | false => b))
    | _, _ => .no
  | x, .nili => match kindOf T t, nilI x, yc with
    | .iface, some b, true => .val (.bool (match neg with | true => !b | false => b))
    | _, _, _ => .no
  | _, _ => .no

def isC : Operand → Bool
  | .const _ => true
  | _ => false

def aBin (T : Tab) (op : BinOp) (t : Nat) (x y : AV) (yo : Operand) : E :=
  match op with
  | .shl => match x, y with | .int k a, .int _ b => aShift .shl k a b (natC yo) | _, _ => .no
  | .shr => match x, y with | .int k a, .int _ b => aShift .shr k a b (natC yo) | _, _ => .no
  | op => match x, y with
    | .int k a, .int k' b => match IntKind.same k k' with | true => aInt op k a b (posC yo) | false => .no
    | .str a, .str b => aStr op a b
    | x, y => match op with
      | .eql => aEq T t false x y (isC yo)
      | .neq => aEq T t true x y (isC yo)
      | _ => .no

theorem toList_inj_bytes {a b : ByteArray} : (a.toList == b.toList) = decide (a = b) := by
  rw [ByteArray.toList_eq, ByteArray.toList_eq]
  by_cases h : a = b
  · subst h; simp
  · simp only [h, decide_false, beq_eq_false_iff_ne, ne_eq]
    intro e
    obtain ⟨⟨x⟩⟩ := a
    obtain ⟨⟨y⟩⟩ := b
    exact h (by simpa using e)

theorem posC_ne {o : Operand} {fr : Fr} {k : IntKind} {b : Int} (h : posC o = true) (he : ev fr o = some (.int k b)) : b ≠ 0 := by
  unfold posC at h
  split at h
  · simp only [ev, ofV, Option.some.injEq, AV.int.injEq] at he
    rw [← he.2]; simp; omega
  · cases h

theorem natC_nn {o : Operand} {fr : Fr} {k : IntKind} {b : Int} (h : natC o = true) (he : ev fr o = some (.int k b)) : 0 ≤ b := by
  unfold natC at h
  split at h
  · simp only [ev, ofV, Option.some.injEq, AV.int.injEq] at he
    rw [← he.2]; simp
  · cases h

theorem aInt_ok {P : Program} {w : World} {op : BinOp} {k : IntKind} {a b : Int} {pos : Bool} {v : AV} {t : Nat} (hp : pos = true → b ≠ 0) (hs : op ≠ .shl) (hs' : op ≠ .shr) (h : (aInt op k a b pos).Holds v) :
    ∃ x, (binOp op t (.int k a) (.int k b)).run P w = .ok x w ∧ ∀ env, Den env v x := by
  have e1 : (a == b) = decide (a = b) := by by_cases h : a = b <;> simp [h]
  have e2 : (a != b) = !decide (a = b) := by by_cases h : a = b <;> simp [h]
  cases op with
  | quo =>
    cases pos <;> simp only [aInt, E.Holds] at h
    · obtain ⟨h1, rfl⟩ := h; simp [binOp, Op.intDiv, Den, h1]
    · subst h; simp [binOp, Op.intDiv, Den, hp rfl]
  | rem =>
    cases pos <;> simp only [aInt, E.Holds] at h
    · obtain ⟨h1, rfl⟩ := h; simp [binOp, Op.intDiv, Den, h1]
    · subst h; simp [binOp, Op.intDiv, Den, hp rfl]
  | shl => exact absurd rfl hs
  | shr => exact absurd rfl hs'
  | _ =>
    simp only [aInt, E.Holds] at h
    subst h
    simp [binOp, Op.intArith, Op.intBits, Op.intCmp, Den, ibit, e1, e2]

theorem aStr_ok {P : Program} {w : World} {op : BinOp} {a b : ByteArray} {v : AV} {t : Nat} (h : (aStr op a b).Holds v) :
    ∃ x, (binOp op t (.string a) (.string b)).run P w = .ok x w ∧ ∀ env, Den env v x := by
  cases op with
  | add =>
    simp only [aStr, E.Holds] at h
    obtain ⟨h1, rfl⟩ := h
    simp [binOp, Op.stringOp, Den, catB_eq]
    unfold big at h1; omega
  | eql | neq | lss | leq | gtr | geq =>
    simp only [aStr, E.Holds] at h
    subst h
    simp only [slt, sle, eqB_eq, ← ByteArray.toList_eq]
    simp [binOp, Op.stringOp, Den, toList_inj_bytes]
  | _ => simp only [aStr, E.Holds] at h

theorem aShift_ok {P : Program} {w : World} {op : BinOp} {k yk : IntKind} {a b : Int} {nat : Bool} {v : AV} {t : Nat} (ho : op = .shl ∨ op = .shr) (hp : nat = true → 0 ≤ b) (h : (aShift op k a b nat).Holds v) :
    ∃ x, (binOp op t (.int k a) (.int yk b)).run P w = .ok x w ∧ ∀ env, Den env v x := by
  have key : ∀ (_ : 0 ≤ b), ¬ b < 0 := fun h => by omega
  rcases ho with rfl | rfl <;> cases nat <;> simp only [aShift, E.Holds] at h
  · obtain ⟨h1, rfl⟩ := h; simp [binOp, Op.shift, Den, key h1, shlI]
  · subst h; simp [binOp, Op.shift, Den, key (hp rfl), shlI]
  · obtain ⟨h1, rfl⟩ := h; simp [binOp, Op.shift, Den, key h1, shrI]
  · subst h; simp [binOp, Op.shift, Den, key (hp rfl), shrI]

theorem kindOf_ok {P : Program} {T : Tab} (hT : TabOK P T) {t : Nat} {k : TK} (h : kindOf T t = k) (hk : k ≠ .other) : ∃ d, P.underlying t = some d ∧ KindOK P k d := by
  unfold kindOf at h
  split at h
  · rename_i hr
    obtain ⟨d, h1, _, h3⟩ := (hT _ _ hr).desc
    subst h
    exact ⟨d, h1, h3⟩
  · exact absurd h.symm hk

theorem nilP_ok {env : Env} {x : AV} {b : Bool} {y : Value} (h : nilP x = some b) (hd : Den env x y) : ∃ p, y = .pointer p ∧ b = p.isNone := by
  cases x <;> simp [nilP] at h <;> subst h <;> simp only [Den] at hd
  · obtain ⟨c, _, rfl⟩ := hd; exact ⟨_, rfl, rfl⟩
  · obtain ⟨c, o, l, cap, _, rfl⟩ := hd; exact ⟨_, rfl, rfl⟩
  · subst hd; exact ⟨_, rfl, rfl⟩

theorem nilI_ok {env : Env} {x : AV} {b : Bool} {y : Value} (h : nilI x = some b) (hd : Den env x y) : (y = .nilIface ∧ b = true) ∨ ((∃ t z, y = .iface t z) ∧ b = false) := by
  cases x <;> simp [nilI] at h <;> subst h <;> simp only [Den] at hd
  · subst hd; exact .inl ⟨rfl, rfl⟩
  · obtain ⟨z, rfl, _⟩ := hd; exact .inr ⟨⟨_, _, rfl⟩, rfl⟩

theorem run_equalIn_bool' {P : Program} {w : World} {d t : Nat} {a b : Bool} (h : P.underlying t = some .bool) : (Op.equalIn (d + 1) t (.bool a) (.bool b)).run P w = .ok (a == b) w := by
  simp [Op.equalIn, run_underlying h]

theorem run_equalIn_ptr' {P : Program} {w : World} {d t e : Nat} {p : Option Addr} (h : P.underlying t = some (.pointer e)) : (Op.equalIn (d + 1) t (.pointer p) (.pointer none)).run P w = .ok p.isNone w := by
  cases p <;> simp [Op.equalIn, run_underlying h]

theorem run_equalIn_iface' {P : Program} {w : World} {d t : Nat} {m : Array (String × TypeId)} {y : Value} (h : P.underlying t = some (.interface m)) (hy : y = .nilIface ∨ ∃ s z, y = .iface s z) :
    (Op.equalIn (d + 1) t y .nilIface).run P w = .ok (y matches .nilIface) w := by
  rcases hy with rfl | ⟨s, z, rfl⟩ <;> simp [Op.equalIn, run_underlying h]

theorem run_equal_bool {P : Program} {w : World} {t : Nat} {a b : Bool} (h : P.underlying t = some .bool) : (Op.equal t (.bool a) (.bool b)).run P w = .ok (a == b) w :=
  run_equalIn_bool' (d := 9999) h

theorem run_equal_ptr {P : Program} {w : World} {t e : Nat} {p : Option Addr} (h : P.underlying t = some (.pointer e)) : (Op.equal t (.pointer p) (.pointer none)).run P w = .ok p.isNone w :=
  run_equalIn_ptr' (d := 9999) h

theorem run_equal_iface {P : Program} {w : World} {t : Nat} {m : Array (String × TypeId)} {y : Value} (h : P.underlying t = some (.interface m)) (hy : y = .nilIface ∨ ∃ s z, y = .iface s z) :
    (Op.equal t y .nilIface).run P w = .ok (y matches .nilIface) w :=
  run_equalIn_iface' (d := 9999) h hy

theorem eqGuard_ok {P : Program} {w : World} {op : BinOp} {t : Nat} {x y : Operand} {a b : Value} (h : ∀ l m, ¬ (a = .agg l ∧ b = .agg m)) (hc : b = .nilIface → isC y = true) : (eqGuard op t x y a b).run P w = .ok () w := by
  unfold eqGuard
  cases op <;> simp
  all_goals
    split
    · have := hc rfl
      unfold isC at this
      split at this
      · simp
      · cases this
    · exact absurd ⟨rfl, rfl⟩ (h _ _)
    · rfl

theorem binOp_eql {t : TypeId} {x y : Value} (h1 : ∀ k a, x ≠ .int k a) (h2 : ∀ k a, x ≠ .float k a) (h3 : ∀ k a b, x ≠ .complex k a b) (h4 : ∀ s, x ≠ .string s) :
    binOp .eql t x y = (do pure (.bool (← Op.equal t x y))) := by
  unfold binOp
  split <;> simp_all

theorem binOp_neq {t : TypeId} {x y : Value} (h1 : ∀ k a, x ≠ .int k a) (h2 : ∀ k a, x ≠ .float k a) (h3 : ∀ k a b, x ≠ .complex k a b) (h4 : ∀ s, x ≠ .string s) :
    binOp .neq t x y = (do pure (.bool (!(← Op.equal t x y)))) := by
  unfold binOp
  split <;> simp_all

theorem aEq_ok {P : Program} {T : Tab} (hT : TabOK P T) {w : World} {env : Env} {t : Nat} {neg : Bool} {x y : AV} {yc : Bool} {v : AV} {a b : Value} (ha : Den env x a) (hb : Den env y b) (h : (aEq T t neg x y yc).Holds v) :
    ∃ r, (binOp (if neg then .neq else .eql) t a b).run P w = .ok (.bool r) w ∧ v = .bool r ∧ (∀ l m, ¬ (a = .agg l ∧ b = .agg m)) ∧ (b = .nilIface → yc = true) := by
  unfold aEq at h
  split at h
  · split at h
    · rename_i hk
      simp only [E.Holds] at h; simp only [Den] at ha hb; subst ha; subst hb; subst h
      obtain ⟨d, h1, h2⟩ := kindOf_ok hT hk (by simp)
      simp only [KindOK] at h2; subst h2
      refine ⟨_, ?_, rfl, by simp, by simp⟩
      cases neg
      · simp [binOp_eql, run_equal_bool h1]
      · simp [binOp_neq, run_equal_bool h1]
    · exact h.elim
  · split at h
    · rename_i hk hn
      simp only [E.Holds] at h; simp only [Den] at hb; subst hb; subst h
      obtain ⟨d, h1, h2⟩ := kindOf_ok hT hk (by simp)
      obtain ⟨i, rfl, _, _⟩ := h2
      obtain ⟨p, rfl, rfl⟩ := nilP_ok hn ha
      refine ⟨_, ?_, rfl, by simp, by simp⟩
      cases neg
      · simp [binOp_eql, run_equal_ptr h1]
      · simp [binOp_neq, run_equal_ptr h1]
    · exact h.elim
  · split at h
    · rename_i hk hn
      simp only [E.Holds] at h; simp only [Den] at hb; subst hb; subst h
      obtain ⟨d, h1, h2⟩ := kindOf_ok hT hk (by simp)
      obtain ⟨m, rfl⟩ := h2
      rcases nilI_ok hn ha with ⟨rfl, rfl⟩ | ⟨⟨s, z, rfl⟩, rfl⟩
      · refine ⟨_, ?_, rfl, by simp, fun _ => rfl⟩
        cases neg
        · simp [binOp_eql, run_equal_iface h1 (.inl rfl)]
        · simp [binOp_neq, run_equal_iface h1 (.inl rfl)]
      · refine ⟨_, ?_, rfl, by simp, fun _ => rfl⟩
        cases neg
        · simp [binOp_eql, run_equal_iface h1 (.inr ⟨s, z, rfl⟩)]
        · simp [binOp_neq, run_equal_iface h1 (.inr ⟨s, z, rfl⟩)]
    · exact h.elim
  · exact h.elim

end
end Go.SX
