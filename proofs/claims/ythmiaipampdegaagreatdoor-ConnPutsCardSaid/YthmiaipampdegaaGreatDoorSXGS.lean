/- SX, part GS: more operations that only compute: slices over boxes, equality of flat values. -/
import Derived.Test.YthmiaipampdegaaGreatDoorSXG
namespace Go.SX
noncomputable section

def fitA : LK → AV → Bool
  | .int k, .int j _ => IntKind.same k j
  | .str, .str _ => true
  | .bool, .bool _ => true
  | _, _ => false

def fitAs : List LK → List AV → Bool
  | [], [] => true
  | k :: l, v :: m => fitA k v && fitAs l m
  | _, _ => false

def eqA1 : AV → AV → Bool
  | .int _ a, .int _ b => decide (a = b)
  | .str a, .str b => eqB a b
  | .bool a, .bool b => a == b
  | _, _ => false

def eqAs : List AV → List AV → Bool
  | [], [] => true
  | v :: l, u :: m => eqA1 v u && eqAs l m
  | _, _ => false

theorem fitA_ok {env : Env} {k : LK} {v : AV} {x : Value} (h : fitA k v = true) (hd : Den env v x) : k.fits x := by
  cases k <;> cases v <;> simp only [fitA] at h <;> (try (cases h; done)) <;> simp only [Den] at hd <;> subst hd
  · rw [IntKind.same_eq h]; exact ⟨_, rfl⟩
  · exact ⟨_, rfl⟩
  · exact ⟨_, rfl⟩

theorem fitAs_ok {env : Env} : ∀ {ks : List LK} {l : List AV} {xs : List Value}, fitAs ks l = true → Dens env l xs → LKs ks xs
  | [], [], _, _, hd => by simp only [Dens] at hd; exact hd
  | [], _ :: _, _, h, _ => by simp [fitAs] at h
  | _ :: _, [], _, h, _ => by simp [fitAs] at h
  | k :: ks, v :: l, xs, h, hd => by
    simp only [fitAs, Bool.and_eq_true] at h
    simp only [Dens] at hd
    obtain ⟨y, ys, h1, h2, h3⟩ := hd
    exact ⟨y, ys, h1, fitA_ok h.1 h2, fitAs_ok h.2 h3⟩

theorem eqA1_ok {env : Env} {k : LK} {v u : AV} {x y : Value} (h : fitA k v = true) (h' : fitA k u = true) (hd : Den env v x) (hd' : Den env u y) : eqC x y = eqA1 v u := by
  cases k <;> cases v <;> simp only [fitA] at h <;> (try (cases h; done)) <;> cases u <;> simp only [fitA] at h' <;> (try (cases h'; done)) <;> simp only [Den] at hd hd' <;> subst hd <;> subst hd' <;> first | rfl | exact (eqB_eq _ _).symm

theorem eqAs_ok {env : Env} : ∀ {ks : List LK} {l m : List AV} {xs ys : List Value}, fitAs ks l = true → fitAs ks m = true → Dens env l xs → Dens env m ys → eqCs xs ys = eqAs l m
  | [], [], [], _, _, _, _, hd, hd' => by simp only [Dens] at hd hd'; subst hd; subst hd'; rfl
  | [], _ :: _, _, _, _, h, _, _, _ => by simp [fitAs] at h
  | [], [], _ :: _, _, _, _, h, _, _ => by simp [fitAs] at h
  | _ :: _, [], _, _, _, h, _, _, _ => by simp [fitAs] at h
  | _ :: _, _ :: _, [], _, _, _, h, _, _ => by simp [fitAs] at h
  | k :: ks, v :: l, u :: m, xs, ys, h, h', hd, hd' => by
    simp only [fitAs, Bool.and_eq_true] at h h'
    simp only [Dens] at hd hd'
    obtain ⟨y, t, h1, h2, h3⟩ := hd
    obtain ⟨y', t', h1', h2', h3'⟩ := hd'
    subst h1; subst h1'
    simp only [eqCs, eqAs]
    rw [eqA1_ok h.1 h'.1 h2 h2', eqAs_ok h.2 h'.2 h3 h3']

/-- The bounds of a slice expression, as integers. -/
def bndA (dflt : Nat) : Option AV → Option Int
  | none => some dflt
  | some (.int _ n) => some n
  | some _ => none

def offA (cap lo off sz : Nat) : Nat := match Nat.beq cap lo with | true => off | false => off + lo * sz

def nilEq (x : AV) (y : AV) : Option Bool :=
  match x, y with
  | .nils, .nils => some true
  | .slc _ _ _ _, .nils => some false
  | .sl _ (_ + 1), .nils => some false
  | .nilm, .nilm => some true
  | .nilf, .nilf => some true
  | .fn _ _ _, .nilf => some false
  | _, _ => none

/-- More of what only computes. -/
def aOp2 (T : Tab) (fr : Fr) : Op → E
  | .indexAddr t x i => match kindOf T t, ev fr x, ev fr i with
    | .slice e, some (.slc h off len _), some (.int _ n) => match T e with
      | some ⟨_, sz, _, _⟩ => .ob (0 ≤ n ∧ n < len) inferInstance (.ptr h (off + n.toNat * sz))
      | none => .no
    | _, _, _ => .no
  | .slice t x lo hi none => match kindOf T t, ev fr x, evo fr lo, evo fr hi with
    | .slice e, some (.slc h off len cap), some l, some u => match T e, bndA 0 l, bndA len u with
      | some ⟨_, sz, _, _⟩, some a, some b => .ob (0 ≤ a ∧ a ≤ b ∧ b ≤ cap) inferInstance (.slc h (offA cap a.toNat off sz) (b.toNat - a.toNat) (cap - a.toNat))
      | _, _, _ => .no
    | .ptr ar, some (.ptr h off), some l, some u => match kindOf T ar with
      | .arr m e => match T e, bndA 0 l, bndA m u with
        | some ⟨_, sz, _, _⟩, some a, some b => .ob (0 ≤ a ∧ a ≤ b ∧ b ≤ m) inferInstance (.slc h (offA m a.toNat off sz) (b.toNat - a.toNat) (m - a.toNat))
        | _, _, _ => .no
      | _ => .no
    | .arr m e, some (.ptr h off), some l, some u => match T e, bndA 0 l, bndA m u with
      | some ⟨_, sz, _, _⟩, some a, some b => .ob (0 ≤ a ∧ a ≤ b ∧ b ≤ m) inferInstance (.slc h (offA m a.toNat off sz) (b.toNat - a.toNat) (m - a.toNat))
      | _, _, _ => .no
    | _, _, _, _ => .no
  | .unOp .xor _ x => match ev fr x with
    | some (.int k n) => .val (.int k (ibit .xor k (if k.signed then -1 else k.max) n))
    | _ => .no
  | .call { callee := .builtin .len, args := xs, argTypes := ts } => match xs.toList, ts.toList with
    | [x], [t] => match kindOf T t, ev fr x with
      | .slice _, some (.slc _ _ n _) => .val (.int .i64 n)
      | .map _ _ _, some .nilm => .val (.int .i64 0)
      | _, _ => .no
    | _, _ => .no
  | .call { callee := .builtin .cap, args := xs, argTypes := ts } => match xs.toList, ts.toList with
    | [x], [t] => match kindOf T t, ev fr x with
      | .slice _, some (.slc _ _ _ n) => .val (.int .i64 n)
      | .slice _, some .nils => .val (.int .i64 0)
      | _, _ => .no
    | _, _ => .no
  | .binOp .eql t x y _ => match kindOf T t, ev fr x, ev fr y with
    | .struct _ (k :: fl), some (.agg l), some (.agg m) => match fitAs (k :: fl) l && fitAs (k :: fl) m with
      | true => .val (.bool (eqAs l m))
      | false => .no
    | _, _, _ => .no
  | .binOp .neq t x y _ => match kindOf T t, ev fr x, ev fr y with
    | .struct _ (k :: fl), some (.agg l), some (.agg m) => match fitAs (k :: fl) l && fitAs (k :: fl) m with
      | true => .val (.bool (!eqAs l m))
      | false => .no
    | _, _, _ => .no
  | _ => .no

theorem kindOf_row {T : Tab} {t : Nat} {k : TK} (h : kindOf T t = k) (hk : k ≠ .other) : ∃ ag sz z, T t = some ⟨ag, sz, z, k⟩ := by
  unfold kindOf at h
  split at h
  · rename_i ag sz z k' hr; subst h; exact ⟨_, _, _, hr⟩
  · exact absurd h.symm hk

theorem bnd_ok {env : Env} {P : Program} {w : World} {d : Nat} {l : Option AV} {lv : Option Value} {a : Int} (h : bndA d l = some a) (hl : ∀ x, l = some x → ∃ y, lv = some y ∧ Den env x y) (hln : l = none → lv = none) :
    (lv = none ∧ a = d) ∨ ∃ k, lv = some (.int k a) := by
  have _ := P
  have _ := w
  unfold bndA at h
  split at h
  · cases h; exact .inl ⟨hln rfl, rfl⟩
  · cases h
    obtain ⟨y, rfl, hd⟩ := hl _ rfl
    simp only [Den] at hd; subst hd
    exact .inr ⟨_, rfl⟩
  · cases h

theorem bounds_ok {P : Program} {w : World} {isS : Bool} {len cap : Nat} {lv hv : Option Value} {a b : Int} (ha : (lv = none ∧ a = (0 : Nat)) ∨ ∃ k, lv = some (.int k a)) (hb : (hv = none ∧ b = len) ∨ ∃ k, hv = some (.int k b))
    (h1 : 0 ≤ a) (h2 : a ≤ b) (h3 : b ≤ cap) : (Instr.sliceBounds isS len cap lv hv none).run P w = .ok (a.toNat, b.toNat, cap) w := by
  have e1 : a ≤ (b.toNat : Int) := by omega
  have e2 : 0 ≤ b := by omega
  have sb : ∀ {k : IntKind} {n : Int} {y : Nat} {c : BoundsCode}, 0 ≤ n → n ≤ y → (Instr.sliceBound (.int k n) y c).run P w = .ok n.toNat w := by
    intro k n y c h1 h2
    simp [Instr.sliceBound, asIntOf, h1, h2]
  unfold Instr.sliceBounds
  rcases ha with ⟨rfl, rfl⟩ | ⟨k, rfl⟩ <;> rcases hb with ⟨rfl, rfl⟩ | ⟨k', rfl⟩
  · simp
  · simp [sb e2 h3]
  · have := sb (k := k) (c := .sliceB) h1 h2
    simp [this]
  · have := sb (k := k) (c := .sliceB) h1 e1
    simp [sb e2 h3, this]

theorem aOp2_ok {P : Program} {T : Tab} (hT : TabOK P T) {fr : Fr} {o : Oper} {v : AV} (h : (aOp2 T fr o.op).Holds v) {env : Env} {a : Act} {w : World} (hn : Need env o fr a) :
    ∃ x, (execOp a.eval o).run P w = .ok (.value x) w ∧ Den env v x := by
  obtain ⟨dst, op, ty, pos, after, guard⟩ := o
  have hev : ∀ {x : Operand} {u : AV}, x ∈ op.operands → ev fr x = some u → Den env u (a.eval x) := fun hx he => ev_den hn hx he
  cases op <;> (try (exact h.elim))
  case indexAddr t x i =>
    simp only [aOp2] at h
    split at h
    · rename_i e hh off len cap k n hk hx hi
      split at h
      · rename_i ag sz z k' hre
        simp only [E.Holds] at h
        obtain ⟨⟨g1, g2⟩, rfl⟩ := h
        obtain ⟨d, h4, rfl⟩ := kind_run hT hk (by simp) w
        have hse := (row_info hT hre w).1
        have d1 := hev (by simp [Op.operands]) hx
        have d2 := hev (by simp [Op.operands]) hi
        simp only [Den] at d1 d2
        obtain ⟨b, hb, hx⟩ := d1
        refine ⟨.pointer (some ⟨b, off + n.toNat * sz, none⟩), ?_, by simp only [Den]; exact ⟨b, hb, rfl⟩⟩
        simp [execOp, Instr.indexAt, asIntOf, d2, h4, hx, g1, g2, hse, addr_add]
      · exact h.elim
    · exact h.elim
  case slice t x lo hi mx =>
    cases mx with
    | some m => exact h.elim
    | none =>
      simp only [aOp2] at h
      split at h
      · rename_i e hh off len cap l u hk hx hl hu
        split at h
        · rename_i ag sz z k' a1 b1 hre hb1 hb2
          simp only [E.Holds] at h
          obtain ⟨⟨g1, g2, g3⟩, rfl⟩ := h
          obtain ⟨d, h4, h5⟩ := kindOf_ok hT hk (by simp)
          simp only [KindOK] at h5; subst h5
          have hse := (row_info hT hre w).1
          have d1 := hev (by simp [Op.operands]) hx
          simp only [Den] at d1
          obtain ⟨b, hb, hx⟩ := d1
          have k1 := evo_den hn (by intro y hy; subst hy; simp [Op.operands]) hl
          have k2 := evo_den hn (by intro y hy; subst hy; simp [Op.operands]) hu
          have hbd := bounds_ok (P := P) (w := w) (isS := true) (bnd_ok (P := P) (w := w) hb1 k1.1 k1.2) (bnd_ok (P := P) (w := w) hb2 k2.1 k2.2) g1 g2 g3
          refine ⟨.slice (some ⟨b, offA cap a1.toNat off sz, none⟩) (b1.toNat - a1.toNat) (cap - a1.toNat), ?_, by simp only [Den]; exact ⟨b, hb, rfl⟩⟩
          unfold offA
          simp only [execOp, Instr.sliceAt, Instr.slice, Sem.run_bind, run_underlying h4, Result.andThen_ok, hx, Option.map_none, hbd, hse, Sem.run_pure]
          by_cases e : cap = a1.toNat
          · simp [e, Nat.beq_refl]
          · have : Nat.beq cap a1.toNat = false := by
              cases hb : Nat.beq cap a1.toNat with
              | false => rfl
              | true => exact absurd (Nat.eq_of_beq_eq_true hb) e
            simp [e, this, addr_add]
        · exact h.elim
      · rename_i ar hh off l u hk hx hl hu
        split at h
        · rename_i m e hka
          split at h
          · rename_i ag sz z k' a1 b1 hre hb1 hb2
            simp only [E.Holds] at h
            obtain ⟨⟨g1, g2, g3⟩, rfl⟩ := h
            obtain ⟨d, h4, h5⟩ := kindOf_ok hT hk (by simp)
            simp only [KindOK] at h5
            obtain ⟨_, rfl, _, _⟩ := h5
            obtain ⟨d2, h6, h7⟩ := kindOf_ok hT hka (by simp)
            simp only [KindOK] at h7; subst h7
            have hse := (row_info hT hre w).1
            have d1 := hev (by simp [Op.operands]) hx
            simp only [Den] at d1
            obtain ⟨b, hb, hx⟩ := d1
            have k1 := evo_den hn (by intro y hy; subst hy; simp [Op.operands]) hl
            have k2 := evo_den hn (by intro y hy; subst hy; simp [Op.operands]) hu
            have hbd := bounds_ok (P := P) (w := w) (isS := false) (bnd_ok (P := P) (w := w) hb1 k1.1 k1.2) (bnd_ok (P := P) (w := w) hb2 k2.1 k2.2) g1 g2 g3
            refine ⟨.slice (some ⟨b, offA m a1.toNat off sz, none⟩) (b1.toNat - a1.toNat) (m - a1.toNat), ?_, by simp only [Den]; exact ⟨b, hb, rfl⟩⟩
            unfold offA
            simp only [execOp, Instr.sliceAt, Instr.slice, Instr.sureAddr, asAddr, Sem.run_bind, run_underlying h4, run_underlying h6, Result.andThen_ok, hx, Option.map_none, hbd, hse, Sem.run_pure]
            by_cases e : m = a1.toNat
            · simp [e, Nat.beq_refl]
            · have : Nat.beq m a1.toNat = false := by
                cases hb : Nat.beq m a1.toNat with
                | false => rfl
                | true => exact absurd (Nat.eq_of_beq_eq_true hb) e
              simp [e, this, addr_add]
          · exact h.elim
        · exact h.elim
      · rename_i m e hh off l u hk hx hl hu
        split at h
        · rename_i ag sz z k' a1 b1 hre hb1 hb2
          simp only [E.Holds] at h
          obtain ⟨⟨g1, g2, g3⟩, rfl⟩ := h
          obtain ⟨d2, h6, h7⟩ := kindOf_ok hT hk (by simp)
          simp only [KindOK] at h7; subst h7
          have hse := (row_info hT hre w).1
          have d1 := hev (by simp [Op.operands]) hx
          simp only [Den] at d1
          obtain ⟨b, hb, hx⟩ := d1
          have k1 := evo_den hn (by intro y hy; subst hy; simp [Op.operands]) hl
          have k2 := evo_den hn (by intro y hy; subst hy; simp [Op.operands]) hu
          have hbd := bounds_ok (P := P) (w := w) (isS := false) (bnd_ok (P := P) (w := w) hb1 k1.1 k1.2) (bnd_ok (P := P) (w := w) hb2 k2.1 k2.2) g1 g2 g3
          refine ⟨.slice (some ⟨b, offA m a1.toNat off sz, none⟩) (b1.toNat - a1.toNat) (m - a1.toNat), ?_, by simp only [Den]; exact ⟨b, hb, rfl⟩⟩
          unfold offA
          simp only [execOp, Instr.sliceAt, Instr.sureAddr, asAddr, Sem.run_bind, run_underlying h6, Result.andThen_ok, hx, Option.map_none, hbd, hse, Sem.run_pure]
          by_cases e : m = a1.toNat
          · simp [e, Nat.beq_refl]
          · have : Nat.beq m a1.toNat = false := by
              cases hb : Nat.beq m a1.toNat with
              | false => rfl
              | true => exact absurd (Nat.eq_of_beq_eq_true hb) e
            simp [e, this, addr_add]
        · exact h.elim
      · exact h.elim
  case binOp op t x y yt =>
    have main : ∀ {fs : List (Nat × Nat)} {k : LK} {fl : List LK} {l m : List AV}, kindOf T t = .struct fs (k :: fl) → ev fr x = some (.agg l) → ev fr y = some (.agg m) → (fitAs (k :: fl) l && fitAs (k :: fl) m) = true →
        ∃ xs ys, a.eval x = .agg xs ∧ a.eval y = .agg ys ∧ (Op.equalIn 10000 t (.agg xs) (.agg ys)).run P w = .ok (eqAs l m) w ∧ ∀ o2, (eqGuard o2 t x y (.agg xs) (.agg ys)).run P w = .ok () w := by
      intro fs k fl l m hk hx hy hf
      simp only [Bool.and_eq_true] at hf
      have d1 := hev (by simp [Op.operands]) hx
      have d2 := hev (by simp [Op.operands]) hy
      simp only [Den] at d1 d2
      obtain ⟨xs, e1, d1⟩ := d1
      obtain ⟨ys, e2, d2⟩ := d2
      obtain ⟨ag, sz, z, hrow⟩ := kindOf_row hk (by simp)
      obtain ⟨_, ⟨d, h4, h5, h6⟩, h7⟩ := hT _ _ hrow
      obtain ⟨f1, f2⟩ := h7 fs k fl rfl
      simp only [KindOK] at h6
      obtain ⟨fields, rfl, _⟩ := h6
      refine ⟨xs, ys, e1, e2, ?_, fun o2 => run_eqGuard_agg w o2 t x y xs ys f2⟩
      have := equalIn_fit (P := P) (d := 100) (D := 10000) (w := w) (by omega) f1 (.inr ⟨xs, fields, rfl, h4, fitAs_ok hf.1 d1⟩) (.inr ⟨ys, fields, rfl, h4, fitAs_ok hf.2 d2⟩)
      rw [this]
      simp only [Value.cells]
      rw [eqAs_ok hf.1 hf.2 d1 d2]
    cases op <;> (try (exact h.elim))
    case eql =>
      simp only [aOp2] at h
      split at h
      · rename_i fs k fl l m hk hx hy
        split at h
        · rename_i hf
          simp only [E.Holds] at h; subst h
          obtain ⟨xs, ys, e1, e2, e3, e4⟩ := main hk hx hy hf
          refine ⟨.bool (eqAs l m), ?_, by simp [Den]⟩
          simp only [execOp, e1, e2, Sem.run_bind, e4, Result.andThen_ok, run_eql_struct, e3, Sem.run_pure]
        · exact h.elim
      · exact h.elim
    case neq =>
      simp only [aOp2] at h
      split at h
      · rename_i fs k fl l m hk hx hy
        split at h
        · rename_i hf
          simp only [E.Holds] at h; subst h
          obtain ⟨xs, ys, e1, e2, e3, e4⟩ := main hk hx hy hf
          refine ⟨.bool (!eqAs l m), ?_, by simp [Den]⟩
          simp only [execOp, e1, e2, Sem.run_bind, e4, Result.andThen_ok, run_neq_struct, e3, Sem.run_pure]
        · exact h.elim
      · exact h.elim
  case unOp op t x =>
    cases op <;> (try (exact h.elim))
    case xor =>
      simp only [aOp2] at h
      split at h
      · rename_i k n hx
        simp only [E.Holds] at h; subst h
        have d1 := hev (by simp [Op.operands]) hx
        simp only [Den] at d1
        exact ⟨_, by simp [execOp, d1, Op.unary, Op.intBits]; rfl, by simp [Den, ibit]⟩
      · exact h.elim
  case call c =>
    obtain ⟨cal, xs, ts⟩ := c
    cases cal with
    | value f => exact h.elim
    | invoke r m => exact h.elim
    | builtin b =>
      have ops : ∀ x ∈ xs.toList, x ∈ (Op.call { callee := .builtin b, args := xs, argTypes := ts }).operands := by
        intro x hx; simp only [Op.operands, Call.operands]; simpa using hx
      cases b <;> (try (exact h.elim))
      case len =>
        simp only [aOp2] at h
        split at h
        · rename_i x t hxs hts
          have hx1 : xs = #[x] := by apply Array.ext'; simpa using hxs
          have ht1 : ts = #[t] := by apply Array.ext'; simpa using hts
          subst hx1; subst ht1
          split at h <;> (try (exact h.elim)) <;> simp only [E.Holds] at h <;> subst h
          · rename_i e hh off n cap hk he
            obtain ⟨d, h4, rfl⟩ := kind_run hT hk (by simp) w
            have d1 := hev (ops x (by simp)) he
            simp only [Den] at d1
            obtain ⟨b, _, d1⟩ := d1
            exact ⟨.int .i64 n, by simp [execOp, resolve, invoke, builtin, Builtin.len_, d1, h4, goInt], by simp [Den]⟩
          · rename_i k e fl hk he
            obtain ⟨d, h4, rfl, _⟩ := kind_run hT hk (by simp) w
            have d1 := hev (ops x (by simp)) he
            simp only [Den] at d1
            exact ⟨.int .i64 0, by simp [execOp, resolve, invoke, builtin, Builtin.len_, d1, h4, goInt], by simp [Den]⟩
        · exact h.elim
      case cap =>
        simp only [aOp2] at h
        split at h
        · rename_i x t hxs hts
          have hx1 : xs = #[x] := by apply Array.ext'; simpa using hxs
          have ht1 : ts = #[t] := by apply Array.ext'; simpa using hts
          subst hx1; subst ht1
          split at h <;> (try (exact h.elim)) <;> simp only [E.Holds] at h <;> subst h
          · rename_i e hh off n cap hk he
            obtain ⟨d, h4, rfl⟩ := kind_run hT hk (by simp) w
            have d1 := hev (ops x (by simp)) he
            simp only [Den] at d1
            obtain ⟨b, _, d1⟩ := d1
            exact ⟨.int .i64 cap, by simp [execOp, resolve, invoke, builtin, Builtin.cap_, d1, h4, goInt], by simp [Den]⟩
          · rename_i e hk he
            obtain ⟨d, h4, rfl⟩ := kind_run hT hk (by simp) w
            have d1 := hev (ops x (by simp)) he
            simp only [Den] at d1
            exact ⟨.int .i64 0, by simp [execOp, resolve, invoke, builtin, Builtin.cap_, d1, h4, goInt], by simp [Den]⟩
        · exact h.elim

end
end Go.SX
