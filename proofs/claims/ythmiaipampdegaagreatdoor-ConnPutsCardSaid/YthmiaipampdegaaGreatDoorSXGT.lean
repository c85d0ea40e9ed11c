/- SX, part GT: what only computes, on slices of rows. -/
import Derived.Test.YthmiaipampdegaaGreatDoorSXGS
namespace Go.SX
noncomputable section

/-- Is a slice nil? -/
def nilS : AV → Option Bool
  | .nils => some true
  | .sv _ _ _ _ _ => some false
  | .slc _ _ _ _ => some false
  | .sl _ (_ + 1) => some false
  | _ => none

theorem nilS_ok {env : Env} {x : AV} {b : Bool} {y : Value} (h : nilS x = some b) (hd : Den env x y) : ∃ p l c, y = .slice p l c ∧ b = p.isNone := by
  unfold nilS at h
  split at h <;> cases h
  · simp only [Den] at hd; exact ⟨_, _, _, hd, rfl⟩
  · simp only [Den] at hd; obtain ⟨_, _, _, _, _, _, _, h, _⟩ := hd; exact ⟨_, _, _, h, rfl⟩
  · simp only [Den] at hd; obtain ⟨_, _, h⟩ := hd; exact ⟨_, _, _, h, rfl⟩
  · simp only [Den] at hd
    obtain ⟨_, p, c, h, h2⟩ := hd
    obtain ⟨b, o, rfl⟩ := h2 (by omega)
    exact ⟨_, _, _, h, rfl⟩

def capE : Option Nat → Nat → Nat
  | none, len => len
  | some c, _ => c

def capSub : Option Nat → Nat → Option Nat
  | none, _ => none
  | some c, a => some (c - a)

/-- How far a slice of a slice may grow. -/
def capM (m : Option AV) (c : Option Nat) (a mm : Int) : Option Nat :=
  match m with
  | none => capSub c a.toNat
  | some _ => some (mm.toNat - a.toNat)

def mxE (m : Option AV) (cap : Nat) (mm : Int) : Nat :=
  match m with
  | none => cap
  | some _ => mm.toNat

def szOf (T : Tab) (e : Nat) : Option Nat := match T e with | some ⟨_, sz, _, _⟩ => some sz | none => none

def aEqS (T : Tab) (fr : Fr) (t : Nat) (x y : Operand) (neg : Bool) : E :=
  match kindOf T t, ev fr x, ev fr y with
  | .slice _, some v, some .nils => match nilS v with
    | some b => .val (.bool (match neg with | true => !b | false => b))
    | none => .no
  | _, _, _ => .no

/-- Three bounds. -/
def b3A (len cap : Nat) (l u m : Option AV) : Option (Int × Int × Int) :=
  match m with
  | none => match bndA 0 l, bndA len u with
    | some a, some b => some (a, b, cap)
    | _, _ => none
  | some mv => match u with
    | none => none
    | some uv => match bndA 0 l, bndA len (some uv), bndA cap (some mv) with
      | some a, some b, some c => some (a, b, c)
      | _, _, _ => none

/-- Yet more of what only computes. -/
def aOp3 (T : Tab) (fr : Fr) : Op → E
  | .index t x i => match kindOf T t, ev fr x, ev fr i with
    | .arr m e, some (.agg l), some (.int _ n) => match T e with
      | some ⟨false, 1, _, _⟩ => match nth l n.toNat with
        | some v => .ob (0 ≤ n ∧ n < m) inferInstance v
        | none => .no
      | _ => .no
    | _, _, _ => .no
  | .indexAddr t x i => match kindOf T t, ev fr x, ev fr i with
    | .slice e, some (.sv h z i0 len _), some (.int _ n) => match szOf T e with
      | some sz => match Nat.beq sz z with
        | true => .ob (0 ≤ n ∧ n < len) inferInstance (.el h z (i0 + n.toNat) 0)
        | false => .no
      | none => .no
    | _, _, _ => .no
  | .slice t x lo hi mx => match kindOf T t, ev fr x, evo fr lo, evo fr hi, evo fr mx with
    | .slice e, some (.sv h z i0 len c), some l, some u, some m => match szOf T e, b3A len (capE c len) l u m with
      | some sz, some (a, b, mm) => match Nat.beq sz z with
        | true => .ob (0 ≤ a ∧ a ≤ b ∧ b ≤ mm ∧ mm ≤ capE c len) inferInstance (.sv h z (i0 + a.toNat) (b.toNat - a.toNat) (capM m c a mm))
        | false => .no
      | _, _ => .no
    | .slice e, some (.slc h off len cap), some l, some u, some (some mv) => match szOf T e, b3A len cap l u (some mv) with
      | some sz, some (a, b, mm) => .ob (0 ≤ a ∧ a ≤ b ∧ b ≤ mm ∧ mm ≤ cap) inferInstance (.slc h (offA mm.toNat a.toNat off sz) (b.toNat - a.toNat) (mm.toNat - a.toNat))
      | _, _ => .no
    | .slice e, some .nils, some l, some u, some m => match szOf T e, b3A 0 0 l u m with
      | some _, some (a, b, mm) => .ob (0 ≤ a ∧ a ≤ b ∧ b ≤ mm ∧ mm ≤ 0) inferInstance .nils
      | _, _ => .no
    | _, _, _, _, _ => .no
  | .call { callee := .builtin .len, args := xs, argTypes := ts } => match xs.toList, ts.toList with
    | [x], [t] => match kindOf T t, ev fr x with
      | .slice _, some (.sv _ _ _ n _) => .val (.int .i64 n)
      | _, _ => .no
    | _, _ => .no
  | .call { callee := .builtin .cap, args := xs, argTypes := ts } => match xs.toList, ts.toList with
    | [x], [t] => match kindOf T t, ev fr x with
      | .slice _, some (.sv _ _ _ _ (some n)) => .val (.int .i64 n)
      | _, _ => .no
    | _, _ => .no
  | .binOp .eql t x y _ => aEqS T fr t x y false
  | .binOp .neq t x y _ => aEqS T fr t x y true
  | _ => .no

theorem szOf_ok {P : Program} {T : Tab} (hT : TabOK P T) {e sz : Nat} (h : szOf T e = some sz) (w : World) : (sizeOf e).run P w = .ok sz w := by
  unfold szOf at h
  split at h
  · rename_i ag s z k hr
    cases h
    exact (row_info hT hr w).1
  · cases h

theorem bounds3_ok {P : Program} {w : World} {len cap0 cap : Nat} {l u m : Option AV} {lv uv mv : Option Value} {a b mm : Int} {env : Env} (h : b3A len cap0 l u m = some (a, b, mm))
    (hl : ∀ x, l = some x → ∃ y, lv = some y ∧ Den env x y) (hln : l = none → lv = none) (hu : ∀ x, u = some x → ∃ y, uv = some y ∧ Den env x y) (hun : u = none → uv = none) (hm : ∀ x, m = some x → ∃ y, mv = some y ∧ Den env x y) (hmn : m = none → mv = none)
    (h1 : 0 ≤ a) (h2 : a ≤ b) (h3 : b ≤ mm) (h4 : mm ≤ cap0) (h5 : cap0 ≤ cap) : (Instr.sliceBounds true len cap lv uv mv).run P w = .ok (a.toNat, b.toNat, mxE m cap mm) w := by
  have bnd : ∀ {d : Nat} {x : Option AV} {xv : Option Value} {k : Int}, bndA d x = some k → (∀ y, x = some y → ∃ v, xv = some v ∧ Den env y v) → (x = none → xv = none) → (xv = none ∧ x = none ∧ k = d) ∨ ∃ q, xv = some (.int q k) := by
    intro d x xv k hb hx hxn
    unfold bndA at hb
    split at hb
    · cases hb; exact .inl ⟨hxn rfl, rfl, rfl⟩
    · cases hb
      obtain ⟨v, rfl, hv⟩ := hx _ rfl
      simp only [Den] at hv; subst hv
      exact .inr ⟨_, rfl⟩
    · cases hb
  have sb : ∀ {q : IntKind} {k : Int} {y : Nat} {c : BoundsCode}, 0 ≤ k → k ≤ y → (Instr.sliceBound (.int q k) y c).run P w = .ok k.toNat w := by
    intro q k y c g1 g2
    simp [Instr.sliceBound, asIntOf, g1, g2]
  cases m with
  | none =>
    have hmv := hmn rfl
    subst hmv
    simp only [b3A] at h
    simp only [mxE]
    split at h
    · rename_i a' b' ha hb
      simp only [Option.some.injEq, Prod.mk.injEq] at h
      obtain ⟨rfl, rfl, rfl⟩ := h
      rcases bnd ha hl hln with ⟨rfl, _, e1⟩ | ⟨q1, rfl⟩ <;> rcases bnd hb hu hun with ⟨rfl, _, e2⟩ | ⟨q2, rfl⟩
      · subst e1; subst e2; simp [Instr.sliceBounds]
      · subst e1
        simp only [Instr.sliceBounds, Sem.run_bind, Sem.run_pure, Result.andThen_ok]
        rw [sb (by omega) (by omega)]; rfl
      · subst e2
        simp only [Instr.sliceBounds, Sem.run_bind, Sem.run_pure, Result.andThen_ok]
        rw [sb h1 (by omega)]; simp
      · simp only [Instr.sliceBounds, Sem.run_bind, Sem.run_pure, Result.andThen_ok]
        rw [sb (by omega) (by omega)]
        simp only [Result.andThen_ok]
        rw [sb h1 (by omega)]; rfl
    · cases h
  | some mvA =>
    cases u with
    | none => simp only [b3A] at h; cases h
    | some uA =>
      simp only [b3A] at h
      simp only [mxE]
      split at h
      · rename_i a' b' c' ha hb hc
        simp only [Option.some.injEq, Prod.mk.injEq] at h
        obtain ⟨rfl, rfl, rfl⟩ := h
        obtain ⟨_, hcn, _⟩ | ⟨q3, rfl⟩ := bnd hc hm hmn
        · cases hcn
        obtain ⟨_, hbn, _⟩ | ⟨q2, rfl⟩ := bnd hb hu hun
        · cases hbn
        rcases bnd ha hl hln with ⟨rfl, _, e1⟩ | ⟨q1, rfl⟩
        · subst e1
          simp only [Instr.sliceBounds, Sem.run_bind, Sem.run_pure, Result.andThen_ok]
          rw [sb (by omega) (by omega)]
          simp only [Result.andThen_ok]
          rw [sb (by omega) (by omega)]; rfl
        · simp only [Instr.sliceBounds, Sem.run_bind, Sem.run_pure, Result.andThen_ok]
          rw [sb (by omega) (by omega)]
          simp only [Result.andThen_ok]
          rw [sb (by omega) (by omega)]
          simp only [Result.andThen_ok]
          rw [sb h1 (by omega)]; simp
      · cases h

theorem run_equalIn_slice' {P : Program} {w : World} {d t e : Nat} {p : Option Addr} {l c : Nat} (h : P.underlying t = some (.slice e)) : (Op.equalIn (d + 1) t (.slice p l c) (.slice none 0 0)).run P w = .ok p.isNone w := by
  cases p <;> simp [Op.equalIn, run_underlying h]

theorem run_equal_slice {P : Program} {w : World} {t e : Nat} {p : Option Addr} {l c : Nat} (h : P.underlying t = some (.slice e)) : (Op.equal t (.slice p l c) (.slice none 0 0)).run P w = .ok p.isNone w :=
  run_equalIn_slice' (d := 9999) h

theorem aOp3_ok {P : Program} {T : Tab} (hT : TabOK P T) {fr : Fr} {o : Oper} {v : AV} (h : (aOp3 T fr o.op).Holds v) {env : Env} {a : Act} {w : World} (hn : Need env o fr a) :
    ∃ x, (execOp a.eval o).run P w = .ok (.value x) w ∧ Den env v x := by
  obtain ⟨dst, op, ty, pos, after, guard⟩ := o
  have hev : ∀ {x : Operand} {u : AV}, x ∈ op.operands → ev fr x = some u → Den env u (a.eval x) := fun hx he => ev_den hn hx he
  cases op <;> (try (exact h.elim))
  case index t x i =>
    simp only [aOp3] at h
    split at h
    · rename_i m e l k n hk hx hi
      split at h
      · rename_i zz kk hre
        split at h
        · rename_i u hu
          simp only [E.Holds] at h
          obtain ⟨⟨g1, g2⟩, rfl⟩ := h
          obtain ⟨d, h4, h5⟩ := kindOf_ok hT hk (by simp)
          simp only [KindOK] at h5; subst h5
          have d1 := hev (by simp [Op.operands]) hx
          have d2 := hev (by simp [Op.operands]) hi
          simp only [Den] at d1 d2
          obtain ⟨xs, q1, q2⟩ := d1
          obtain ⟨r1, _, _, r4⟩ := row_info hT hre w
          rw [nth_eq] at hu
          obtain ⟨y, hy1, hy2⟩ := (dens_iff.1 q2).2 _ _ hu
          refine ⟨y, ?_, hy2⟩
          have hy3 : xs[n.toNat]? = some y := by simpa using hy1
          simp [execOp, Instr.index, asIntOf, d2, run_underlying h4, q1, g1, g2, r1, part, r4, hy3]
        · exact h.elim
      · exact h.elim
    · exact h.elim
  case indexAddr t x i =>
    simp only [aOp3] at h
    split at h
    · rename_i e hh z i0 len c k n hk hx hi
      split at h
      · rename_i sz hre
        split at h
        · rename_i hsz
          have hsz := Nat.eq_of_beq_eq_true hsz
          subst hsz
          simp only [E.Holds] at h
          obtain ⟨⟨g1, g2⟩, rfl⟩ := h
          obtain ⟨d, h4, rfl⟩ := kind_run hT hk (by simp) w
          have hse := szOf_ok hT hre w
          have d1 := hev (by simp [Op.operands]) hx
          have d2 := hev (by simp [Op.operands]) hi
          simp only [Den] at d1 d2
          obtain ⟨b, o1, m, C, p, cc, q1, q2, q3, q4, q5, q6, q7⟩ := d1
          have hpp := q7 (by omega)
          subst hpp
          refine ⟨.pointer (some ⟨b, o1 + ((i0 + n.toNat) * sz + 0), none⟩), ?_, by simp only [Den]; exact ⟨b, o1, m, C, q1, rfl⟩⟩
          have ea : o1 + i0 * sz + n.toNat * sz = o1 + ((i0 + n.toNat) * sz + 0) := by rw [Nat.add_mul]; omega
          simp [execOp, Instr.indexAt, asIntOf, d2, h4, q2, g1, g2, hse, addr_add]
          rw [Nat.add_mul]; omega
        · exact h.elim
      · exact h.elim
    · exact h.elim
  case slice t x lo hi mx =>
    simp only [aOp3] at h
    split at h
    · rename_i e hh z i0 len c l u m hk hx hl hu hm
      split at h
      · rename_i sz a1 b1 mm hre hb3
        split at h
        · rename_i hsz
          have hsz := Nat.eq_of_beq_eq_true hsz
          subst hsz
          simp only [E.Holds] at h
          obtain ⟨⟨g1, g2, g3, g4⟩, rfl⟩ := h
          obtain ⟨d, h4, h5⟩ := kindOf_ok hT hk (by simp)
          simp only [KindOK] at h5; subst h5
          have hse := szOf_ok hT hre w
          have d1 := hev (by simp [Op.operands]) hx
          simp only [Den] at d1
          obtain ⟨b, o1, mw, C, p, cc, q1, q2, q3, q4, q5, q6, q7⟩ := d1
          have k1 := evo_den hn (by intro y hy; subst hy; simp [Op.operands]) hl
          have k2 := evo_den hn (by intro y hy; subst hy; simp [Op.operands]) hu
          have k3 := evo_den hn (by intro y hy; subst hy; simp [Op.operands]) hm
          have hce : capE c len ≤ cc := by
            cases c with
            | none => exact q3
            | some c => simp only [capE]; rw [q6 c rfl]; exact Nat.le_refl _
          have hbd := bounds3_ok (P := P) (w := w) (cap := cc) hb3 k1.1 k1.2 k2.1 k2.2 k3.1 k3.2 g1 g2 g3 g4 hce
          generalize hM : mxE m cc mm = M at hbd
          have hMc : M ≤ cc := by
            rw [← hM]; cases m with
            | none => exact Nat.le_refl _
            | some _ => simp only [mxE]; omega
          have hMb : b1.toNat ≤ M := by
            rw [← hM]; cases m with
            | none => simp only [mxE]; omega
            | some _ => simp only [mxE]; omega
          refine ⟨.slice (some (if M = a1.toNat then p else p.add (a1.toNat * sz))) (b1.toNat - a1.toNat) (M - a1.toNat), ?_, ?_⟩
          · simp only [execOp, Instr.sliceAt, Instr.slice, Sem.run_bind, run_underlying h4, Result.andThen_ok, q2, hbd, hse, Sem.run_pure]
            split <;> rfl
          · simp only [Den]
            refine ⟨b, o1, mw, C, _, _, q1, rfl, by omega, by omega, ?_, ?_, ?_⟩
            · intro hc
              cases m with
              | none =>
                simp only [mxE] at hM
                cases c with
                | none => have := q5 rfl; omega
                | some c => simp [capM, capSub] at hc
              | some _ => cases hc
            · intro k hc
              cases m with
              | none =>
                simp only [mxE] at hM
                cases c with
                | none => simp [capM, capSub] at hc
                | some c =>
                  simp only [capM, capSub, Option.some.injEq] at hc
                  have := q6 c rfl; omega
              | some _ => simp only [capM, mxE, Option.some.injEq] at hM hc; omega
            · intro hpos
              have hpp := q7 (by omega)
              subst hpp
              rw [if_neg (by omega), addr_add, Nat.add_mul, Nat.add_assoc]
        · exact h.elim
      · exact h.elim
    · rename_i e hh off len cap l u mv hk hx hl hu hm
      split at h
      · rename_i sz a1 b1 mm hre hb3
        simp only [E.Holds] at h
        obtain ⟨⟨g1, g2, g3, g4⟩, rfl⟩ := h
        obtain ⟨d, h4, h5⟩ := kindOf_ok hT hk (by simp)
        simp only [KindOK] at h5; subst h5
        have hse := szOf_ok hT hre w
        have d1 := hev (by simp [Op.operands]) hx
        simp only [Den] at d1
        obtain ⟨b, hb, q2⟩ := d1
        have k1 := evo_den hn (by intro y hy; subst hy; simp [Op.operands]) hl
        have k2 := evo_den hn (by intro y hy; subst hy; simp [Op.operands]) hu
        have k3 := evo_den hn (by intro y hy; subst hy; simp [Op.operands]) hm
        have hbd := bounds3_ok (P := P) (w := w) (cap := cap) hb3 k1.1 k1.2 k2.1 k2.2 k3.1 k3.2 g1 g2 g3 g4 (Nat.le_refl _)
        simp only [mxE] at hbd
        refine ⟨.slice (some ⟨b, offA mm.toNat a1.toNat off sz, none⟩) (b1.toNat - a1.toNat) (mm.toNat - a1.toNat), ?_, by simp only [Den]; exact ⟨b, hb, rfl⟩⟩
        unfold offA
        simp only [execOp, Instr.sliceAt, Instr.slice, Sem.run_bind, run_underlying h4, Result.andThen_ok, q2, hbd, hse, Sem.run_pure]
        by_cases e : mm.toNat = a1.toNat
        · simp [e, Nat.beq_refl]
        · have : Nat.beq mm.toNat a1.toNat = false := by
            cases hb : Nat.beq mm.toNat a1.toNat with
            | false => rfl
            | true => exact absurd (Nat.eq_of_beq_eq_true hb) e
          simp [e, this, addr_add]
      · exact h.elim
    · rename_i e l u m hk hx hl hu hm
      split at h
      · rename_i sz a1 b1 mm hre hb3
        simp only [E.Holds] at h
        obtain ⟨⟨g1, g2, g3, g4⟩, rfl⟩ := h
        obtain ⟨d, h4, h5⟩ := kindOf_ok hT hk (by simp)
        simp only [KindOK] at h5; subst h5
        have d1 := hev (by simp [Op.operands]) hx
        simp only [Den] at d1
        have k1 := evo_den hn (by intro y hy; subst hy; simp [Op.operands]) hl
        have k2 := evo_den hn (by intro y hy; subst hy; simp [Op.operands]) hu
        have k3 := evo_den hn (by intro y hy; subst hy; simp [Op.operands]) hm
        have hbd := bounds3_ok (P := P) (w := w) (cap := 0) hb3 k1.1 k1.2 k2.1 k2.2 k3.1 k3.2 g1 g2 g3 g4 (Nat.le_refl _)
        have ha0 : a1.toNat = 0 := by omega
        have hb0 : b1.toNat = 0 := by omega
        have hm0 : mxE m 0 mm = 0 := by
          cases m with
          | none => rfl
          | some _ => simp only [mxE]; omega
        rw [ha0, hb0, hm0] at hbd
        refine ⟨.slice none 0 0, ?_, by simp only [Den]⟩
        have hn2 := szOf_ok hT hre w
        simp only [execOp, Instr.sliceAt, Instr.slice, Sem.run_bind, run_underlying h4, Result.andThen_ok, d1, hbd, hn2, Sem.run_pure]
        simp
      · exact h.elim
    · exact h.elim
  case binOp op t x y yt =>
    have main : ∀ {neg : Bool}, (aEqS T fr t x y neg).Holds v → ∃ b : Bool, v = .bool (xor neg b) ∧ ∃ p l c, a.eval x = .slice p l c ∧ a.eval y = .slice none 0 0 ∧ (Op.equal t (a.eval x) (a.eval y)).run P w = .ok b w := by
      intro neg h
      unfold aEqS at h
      split at h
      · rename_i e v1 hk hx hy
        split at h
        · rename_i b hb
          simp only [E.Holds] at h; subst h
          obtain ⟨d, h4, h5⟩ := kindOf_ok hT hk (by simp)
          simp only [KindOK] at h5; subst h5
          have d1 := hev (by simp [Op.operands]) hx
          have d2 := hev (by simp [Op.operands]) hy
          obtain ⟨p, l, c, e1, rfl⟩ := nilS_ok hb d1
          simp only [Den] at d2
          exact ⟨p.isNone, by cases neg <;> simp, p, l, c, e1, d2, by rw [e1, d2]; exact run_equal_slice h4⟩
        · exact h.elim
      · exact h.elim
    cases op <;> (try (exact h.elim))
    case eql =>
      obtain ⟨b, rfl, p, l, c, e1, e2, e3⟩ := main (neg := false) h
      refine ⟨.bool (xor false b), ?_, by simp only [Den]⟩
      have hg := eqGuard_ok (P := P) (w := w) (op := .eql) (t := t) (x := x) (y := y) (a := a.eval x) (b := a.eval y) (by rw [e1]; simp) (by rw [e2]; simp)
      simp only [execOp, Sem.run_bind, hg, Result.andThen_ok]
      rw [e1, e2] at e3 ⊢
      rw [binOp_eql (by simp) (by simp) (by simp) (by simp)]
      simp only [Sem.run_bind, e3, Result.andThen_ok, Sem.run_pure, Bool.false_xor]
    case neq =>
      obtain ⟨b, rfl, p, l, c, e1, e2, e3⟩ := main (neg := true) h
      refine ⟨.bool (xor true b), ?_, by simp only [Den]⟩
      have hg := eqGuard_ok (P := P) (w := w) (op := .neq) (t := t) (x := x) (y := y) (a := a.eval x) (b := a.eval y) (by rw [e1]; simp) (by rw [e2]; simp)
      simp only [execOp, Sem.run_bind, hg, Result.andThen_ok]
      rw [e1, e2] at e3 ⊢
      rw [binOp_neq (by simp) (by simp) (by simp) (by simp)]
      simp only [Sem.run_bind, e3, Result.andThen_ok, Sem.run_pure, Bool.true_xor]
  case call c =>
    obtain ⟨cal, xs, ts⟩ := c
    cases cal with
    | value f => exact h.elim
    | invoke r m => exact h.elim
    | builtin b =>
      have ops : ∀ x ∈ xs.toList, x ∈ (Op.call { callee := .builtin b, args := xs, argTypes := ts }).operands := by
        intro x hx; simp only [Op.operands, Call.operands]; simpa using hx
      cases b <;> (try (exact h.elim))
      case len =>
        simp only [aOp3] at h
        split at h
        · rename_i x t hxs hts
          have hx1 : xs = #[x] := by apply Array.ext'; simpa using hxs
          have ht1 : ts = #[t] := by apply Array.ext'; simpa using hts
          subst hx1; subst ht1
          split at h <;> (try (exact h.elim)) <;> simp only [E.Holds] at h <;> subst h
          · rename_i e hh z i0 n c hk he
            obtain ⟨d, h4, rfl⟩ := kind_run hT hk (by simp) w
            have d1 := hev (ops x (by simp)) he
            simp only [Den] at d1
            obtain ⟨b, o1, mw, C, p, cc, q1, q2, _⟩ := d1
            exact ⟨.int .i64 n, by simp [execOp, resolve, invoke, builtin, Builtin.len_, q2, h4, goInt], by simp [Den]⟩
        · exact h.elim
      case cap =>
        simp only [aOp3] at h
        split at h
        · rename_i x t hxs hts
          have hx1 : xs = #[x] := by apply Array.ext'; simpa using hxs
          have ht1 : ts = #[t] := by apply Array.ext'; simpa using hts
          subst hx1; subst ht1
          split at h <;> (try (exact h.elim)) <;> simp only [E.Holds] at h <;> subst h
          · rename_i e hh z i0 n c hk he
            obtain ⟨d, h4, rfl⟩ := kind_run hT hk (by simp) w
            have d1 := hev (ops x (by simp)) he
            simp only [Den] at d1
            obtain ⟨b, o1, mw, C, p, cc, q1, q2, q3, q4, q5, q6, _⟩ := d1
            have := q6 c rfl
            subst this
            exact ⟨.int .i64 cc, by simp [execOp, resolve, invoke, builtin, Builtin.cap_, q2, h4, goInt], by simp [Den]⟩
        · exact h.elim

/-- What only computes. -/
def aOpA (T : Tab) (fr : Fr) (op : Op) : E :=
  match aOp T fr op with
  | .no => match aOp2 T fr op with
    | .no => aOp3 T fr op
    | .val v => .val v
    | .ob p d v => .ob p d v
  | .val v => .val v
  | .ob p d v => .ob p d v

theorem aOpA_ok {P : Program} {T : Tab} (hT : TabOK P T) {fr : Fr} {o : Oper} {v : AV} (h : (aOpA T fr o.op).Holds v) {env : Env} {a : Act} {w : World} (hn : Need env o fr a) :
    ∃ x, (execOp a.eval o).run P w = .ok (.value x) w ∧ Den env v x := by
  unfold aOpA at h
  split at h
  · split at h
    · exact aOp3_ok hT h hn
    · rename_i u hu; exact aOp2_ok hT (by rw [hu]; exact h) hn
    · rename_i p d u hu; exact aOp2_ok hT (by rw [hu]; exact h) hn
  · rename_i u hu; exact aOp_ok hT (by rw [hu]; exact h) hn
  · rename_i p d u hu; exact aOp_ok hT (by rw [hu]; exact h) hn

end
end Go.SX
