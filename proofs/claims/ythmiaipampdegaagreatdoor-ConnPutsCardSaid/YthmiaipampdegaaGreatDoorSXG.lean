/- SX, part G: the operations that only compute. -/
import Derived.Test.YthmiaipampdegaaGreatDoorSXF
namespace Go.SX
noncomputable section

def evs (fr : Fr) (l : List Operand) : Option (List AV) := List.rec (motive := fun _ => Option (List AV)) (some []) (fun x _ ih => match ev fr x, ih with
    | some v, some r => some (v :: r)
    | _, _ => none) l
theorem evs_nil (fr : Fr) : evs fr [] = some [] := rfl
theorem evs_cons (fr : Fr) (x : Operand) (l : List Operand) : evs fr (x :: l) = (match ev fr x, evs fr l with
    | some v, some r => some (v :: r)
    | _, _ => none) := rfl

theorem evs_den {env : Env} {o : Oper} {fr : Fr} {a : Act} (hn : Need env o fr a) : ∀ {xs : List Operand} {vs : List AV}, (∀ x ∈ xs, x ∈ o.op.operands) → evs fr xs = some vs → Dens env vs (xs.map a.eval)
  | [], vs, _, h => by simp only [evs_nil, Option.some.injEq] at h; subst h; simp [Dens]
  | x :: l, vs, hm, h => by
    rw [evs_cons] at h
    split at h
    · rename_i v r h1 h2
      cases h
      simp only [List.map_cons, Dens]
      exact ⟨_, _, rfl, ev_den hn (hm x List.mem_cons_self) h1, evs_den hn (fun y hy => hm y (List.mem_cons_of_mem _ hy)) h2⟩
    · cases h

def evps (fr : Fr) (l : List (Nat × Operand)) : Option (List (Nat × AV)) := List.rec (motive := fun _ => Option (List (Nat × AV))) (some []) (fun p _ ih => match ev fr p.2, ih with
    | some v, some r => some ((p.1, v) :: r)
    | _, _ => none) l
theorem evps_nil (fr : Fr) : evps fr [] = some [] := rfl
theorem evps_cons (fr : Fr) (i : Nat) (x : Operand) (l : List (Nat × Operand)) : evps fr ((i, x) :: l) = (match ev fr x, evps fr l with
    | some v, some r => some ((i, v) :: r)
    | _, _ => none) := rfl

theorem evps_den {env : Env} {o : Oper} {fr : Fr} {a : Act} (hn : Need env o fr a) : ∀ {xs : List (Nat × Operand)} {vs : List (Nat × AV)}, (∀ p ∈ xs, p.2 ∈ o.op.operands) → evps fr xs = some vs → DenP env vs (xs.map fun p => (p.1, a.eval p.2))
  | [], vs, _, h => by simp only [evps_nil, Option.some.injEq] at h; subst h; exact .nil
  | (i, x) :: l, vs, hm, h => by
    rw [evps_cons] at h
    split at h
    · rename_i v r h1 h2
      cases h
      exact .cons (ev_den hn (hm (i, x) List.mem_cons_self) h1) (evps_den hn (fun y hy => hm y (List.mem_cons_of_mem _ hy)) h2)
    · cases h

def aUn (op : UnOp) (x : AV) : E :=
  match op, x with
  | .not, .bool b => .val (.bool (!b))
  | .neg, .int k n => .val (.int k (k.wrap (-n)))
  | _, _ => .no

def partA (agg : Bool) (cs : List AV) (off sz : Nat) : Option AV :=
  match agg with
  | true => some (.agg (takeR sz (dropR off cs)))
  | false => nth cs off

/-- The byte at a place; 0 beyond the end. -/
def byteAt (s : ByteArray) (i : Int) : Int := ((s[i.toNat]?).getD 0).toNat

def optE (o : Option AV) : E := match o with | some v => .val v | none => .no

def sliceE (s : ByteArray) (lo hi : Option AV) : E :=
  match lo, hi with
  | none, none => .val (.str s)
  | some (.int _ l), none => .ob (0 ≤ l ∧ l ≤ s.size) inferInstance (.str (subB s l.toNat s.size))
  | none, some (.int _ h) => .ob (0 ≤ h ∧ h ≤ s.size) inferInstance (.str (subB s 0 h.toNat))
  | some (.int _ l), some (.int _ h) => .ob (0 ≤ l ∧ l ≤ h ∧ h ≤ s.size) inferInstance (.str (subB s l.toNat h.toNat))
  | _, _ => .no

def evo (fr : Fr) : Option Operand → Option (Option AV)
  | none => some none
  | some x => match ev fr x with | some v => some (some v) | none => none

/-- What an operation that only computes yields. -/
def aOp (T : Tab) (fr : Fr) : Op → E
  | .move x => optE (ev fr x)
  | .assign x => optE (ev fr x)
  | .build t ps => match T t, evps fr ps.toList with
    | some ⟨true, _, z, .struct fs _⟩, some vs => match fillA (nth fs) z vs with | some cs => .val (.agg cs) | none => .no
    | some ⟨true, _, z, .arr _ e⟩, some vs => match T e with
      | some ⟨_, sz, _, _⟩ => match fillA (fun i => some (i * sz, sz)) z vs with | some cs => .val (.agg cs) | none => .no
      | none => .no
    | _, _ => .no
  | .nilCheck x => match ev fr x with
    | some (.ptr h k) => .val (.ptr h k)
    | some (.el h z i k) => .val (.el h z i k)
    | some (.iface t v) => .val (.iface t v)
    | some (.fn (.func f) l m) => .val (.fn (.func f) l m)
    | _ => .no
  | .binOp op t x y _ => match ev fr x, ev fr y with
    | some v, some u => aBin T op t v u y
    | _, _ => .no
  | .unOp op _ x => match ev fr x with
    | some v => aUn op v
    | none => .no
  | .convert s d x => match kindOf T s, kindOf T d, ev fr x with
    | .int _, .int k, some (.int _ n) => .val (.int k (k.wrap n))
    | .str, .str, some (.str v) => .val (.str v)
    | _, _, _ => .no
  | .makeInterface t x => match T t, ev fr x with
    | some ⟨_, _, _, .iface⟩, _ => .no
    | some _, some v => .val (.iface t v)
    | _, _ => .no
  | .makeFunc f l m => match evs fr l.toList, evs fr m.toList with
    | some vs, some us => .val (.fn f vs us)
    | _, _ => .no
  | .fieldAddr t x i => match kindOf T t, ev fr x with
    | .struct fs _, some (.ptr h k) => match nth fs i with | some (off, _) => .val (.ptr h (k + off)) | none => .no
    | .struct fs _, some (.el h z j c) => match nth fs i with | some (off, _) => .val (.el h z j (c + off)) | none => .no
    | _, _ => .no
  | .extract x i => match ev fr x with
    | some (.tup l) => optE (nth l i)
    | _ => .no
  | .indexAddr t x i => match kindOf T t, ev fr x, ev fr i with
    | .slice e, some (.sl h len), some (.int _ n) => match T e with
      | some ⟨_, sz, _, _⟩ => .ob (0 ≤ n ∧ n < len) inferInstance (.el h sz n.toNat 0)
      | none => .no
    | .arr m e, some (.ptr h k), some (.int _ n) => match T e with
      | some ⟨_, sz, _, _⟩ => .ob (0 ≤ n ∧ n < m) inferInstance (.ptr h (k + n.toNat * sz))
      | none => .no
    | _, _, _ => .no
  | .index t x i => match kindOf T t, ev fr x, ev fr i with
    | .str, some (.str s), some (.int _ n) => .ob (0 ≤ n ∧ n < s.size) inferInstance (.int .u8 (byteAt s n))
    | _, _, _ => .no
  | .slice t x lo hi none => match kindOf T t, ev fr x, evo fr lo, evo fr hi with
    | .str, some (.str s), some l, some h => sliceE s l h
    | _, _, _, _ => .no
  | .typeAssert x _ t ok => match T t, ev fr x, ok with
    | some ⟨_, _, _, .iface⟩, _, _ => .no
    | some ⟨ag, _, z, _⟩, some (.iface t' v), true => match Nat.beq t' t with
      | true => .val (.tup [v, .bool true])
      | false => match ag, z with
        | true, z => .val (.tup [.agg z, .bool false])
        | false, [z] => .val (.tup [z, .bool false])
        | _, _ => .no
    | some ⟨ag, _, z, _⟩, some .nili, true => match ag, z with
        | true, z => .val (.tup [.agg z, .bool false])
        | false, [z] => .val (.tup [z, .bool false])
        | _, _ => .no
    | some _, some (.iface t' v), false => match Nat.beq t' t with
      | true => .val v
      | false => .no
    | _, _, _ => .no
  | .call { callee := .builtin .len, args := xs, argTypes := ts } => match xs.toList, ts.toList with
    | [x], [t] => match kindOf T t, ev fr x with
      | .str, some (.str s) => .val (.int .i64 s.size)
      | .slice _, some (.sl _ n) => .val (.int .i64 n)
      | .slice _, some .nils => .val (.int .i64 0)
      | _, _ => .no
    | _, _ => .no
  | .call { callee := .builtin .max, args := xs, argTypes := _ } => match evs fr xs.toList with
    | some [.int k a, .int _ b] => .val (.int k (max a b))
    | _ => .no
  | .call { callee := .builtin .min, args := xs, argTypes := _ } => match evs fr xs.toList with
    | some [.int k a, .int _ b] => .val (.int k (min a b))
    | _ => .no
  | _ => .no

theorem row_info {P : Program} {T : Tab} (hT : TabOK P T) {t : Nat} {r : TRow} (h : T t = some r) (w : World) :
    (sizeOf t).run P w = .ok r.size w ∧ (∃ z, (zeroValue t).run P w = .ok z w ∧ ∀ env, Dens env r.zero z.cells.toList ∧ aggV z = r.agg) ∧ (∃ d, (underlying t).run P w = .ok d w ∧ isAggD d = r.agg ∧ KindOK P r.k d) ∧ (isAgg t).run P w = .ok r.agg w := by
  obtain ⟨⟨i, z, h1, h2, h3, ha, h4, _⟩, ⟨d, h5, h6, h7⟩, _⟩ := hT t r h
  refine ⟨by simp [sizeOf, typeInfo, h1, h2], ⟨z, by simp [zeroValue, typeInfo, h1, h3], fun env => ⟨h4 env, ha⟩⟩, ⟨d, run_underlying h5 w, h6, h7⟩, ?_⟩
  unfold isAgg
  simp only [Sem.run_bind, run_underlying h5, Result.andThen_ok]
  rw [← h6]
  unfold isAggD
  cases d <;> rfl

theorem kind_run {P : Program} {T : Tab} (hT : TabOK P T) {t : Nat} {k : TK} (h : kindOf T t = k) (hk : k ≠ .other) (w : World) : ∃ d, (underlying t).run P w = .ok d w ∧ KindOK P k d :=
  let ⟨d, h1, h2⟩ := kindOf_ok hT h hk; ⟨d, run_underlying h1 w, h2⟩

theorem kind_iface {P : Program} {k : TK} {m : Array (String × TypeId)} (h : KindOK P k (.interface m)) : k = .iface := by
  cases k <;> simp only [KindOK] at h
  · cases h
  · cases h
  · cases h
  · obtain ⟨_, h, _⟩ := h; cases h
  · cases h
  · cases h
  · obtain ⟨_, h, _⟩ := h; cases h
  · cases h.1
  · rfl
  · exact absurd rfl (h m)

theorem optE_holds {o : Option AV} {v : AV} (h : (optE o).Holds v) : o = some v := by
  cases o <;> simp [optE, E.Holds] at h; rw [h]

theorem aUn_ok {P : Program} {w : World} {env : Env} {op : UnOp} {x v : AV} {y : Value} (hd : Den env x y) (h : (aUn op x).Holds v) : ∃ z, (Op.unary op y).run P w = .ok z w ∧ Den env v z := by
  unfold aUn at h
  split at h
  · simp only [E.Holds] at h; simp only [Den] at hd; subst hd; subst h; simp [Op.unary, Den]
  · simp only [E.Holds] at h; simp only [Den] at hd; subst hd; subst h; simp [Op.unary, Op.intArith, Den]
  · exact h.elim

theorem aBin_ok {P : Program} {T : Tab} (hT : TabOK P T) {w : World} {env : Env} {op : BinOp} {t : Nat} {x y : AV} {xo yo : Operand} {v : AV} {a b : Value} {fr : Fr}
    (hy : ev fr yo = some y) (ha : Den env x a) (hb : Den env y b) (h : (aBin T op t x y yo).Holds v) :
    ∃ r, (do eqGuard op t xo yo a b; binOp op t a b : Sem Value).run P w = .ok r w ∧ Den env v r := by
  have fin : (∃ r, (binOp op t a b).run P w = .ok r w ∧ ∀ env, Den env v r) → (∀ l m, ¬ (a = .agg l ∧ b = .agg m)) → (b = .nilIface → isC yo = true) →
      ∃ r, (do eqGuard op t xo yo a b; binOp op t a b : Sem Value).run P w = .ok r w ∧ Den env v r := by
    rintro ⟨r, h1, h2⟩ h3 h4
    exact ⟨r, by simp [eqGuard_ok h3 h4, h1], h2 env⟩
  unfold aBin at h
  split at h
  · split at h
    · simp only [Den] at ha hb; subst ha; subst hb
      exact fin (aShift_ok (.inl rfl) (fun h => natC_nn h hy) h) (by simp) (by simp)
    · exact h.elim
  · split at h
    · simp only [Den] at ha hb; subst ha; subst hb
      exact fin (aShift_ok (.inr rfl) (fun h => natC_nn h hy) h) (by simp) (by simp)
    · exact h.elim
  · rename_i hn1 hn2
    split at h
    · split at h
      · rename_i hk
        have hk := IntKind.same_eq hk
        simp only [Den] at ha hb; subst ha; subst hb; subst hk
        exact fin (aInt_ok (fun h => posC_ne h hy) (fun e => hn1 e) (fun e => hn2 e) h) (by simp) (by simp)
      · exact h.elim
    · simp only [Den] at ha hb; subst ha; subst hb
      exact fin (aStr_ok h) (by simp) (by simp)
    · split at h
      · obtain ⟨r, h1, rfl, h3, h4⟩ := aEq_ok (P := P) (w := w) hT ha hb h
        exact fin ⟨_, h1, fun _ => by simp [Den]⟩ h3 h4
      · obtain ⟨r, h1, rfl, h3, h4⟩ := aEq_ok (P := P) (w := w) hT ha hb h
        exact fin ⟨_, h1, fun _ => by simp [Den]⟩ h3 h4
      · exact h.elim

theorem nth_den {env : Env} {l : List AV} {xs : List Value} {i : Nat} {v : AV} (h : Dens env l xs) (hn : nth l i = some v) : ∃ x, xs[i]? = some x ∧ Den env v x := by
  rw [nth_eq] at hn; exact h.get hn

theorem cells_of_agg {z : Value} {l : List AV} {env : Env} (h : Dens env l z.cells.toList) (hz : ∃ xs, z = .agg xs) : Den env (.agg l) z := by
  obtain ⟨xs, rfl⟩ := hz
  simp only [Den]
  exact ⟨xs, rfl, by simpa [Value.cells] using h⟩

theorem addr_add {b o n : Nat} : (⟨b, o, none⟩ : Addr).add n = ⟨b, o + n, none⟩ := by
  unfold Addr.add
  split
  · rename_i h; subst h; rfl
  · rfl

theorem sliceE_ok {P : Program} {w : World} {env : Env} {s : ByteArray} {l h : Option AV} {lv hv : Option Value} {v : AV} {t : Nat} (ht : P.underlying t = some .string)
    (hl : ∀ x, l = some x → ∃ y, lv = some y ∧ Den env x y) (hln : l = none → lv = none) (hh : ∀ x, h = some x → ∃ y, hv = some y ∧ Den env x y) (hhn : h = none → hv = none)
    (he : (sliceE s l h).Holds v) : ∃ z, (Instr.sliceAt t (.string s) lv hv none).run P w = .ok z w ∧ Den env v z := by
  unfold sliceE at he
  split at he
  · simp only [E.Holds] at he; subst he
    rw [hln rfl, hhn rfl]
    refine ⟨.string s, ?_, by simp [Den]⟩
    simp [Instr.sliceAt, Instr.slice, Instr.sliceBounds, run_underlying ht]
  · rename_i k n
    obtain ⟨y, rfl, hd⟩ := hl _ rfl
    simp only [Den] at hd; subst hd
    simp only [E.Holds] at he
    obtain ⟨⟨h1, h2⟩, rfl⟩ := he
    rw [hhn rfl]
    refine ⟨_, ?_, by simp [Den]; rfl⟩
    simp [Instr.sliceAt, Instr.slice, Instr.sliceBounds, Instr.sliceBound, asIntOf, run_underlying ht, h1, h2, subB_eq]
  · rename_i k n
    obtain ⟨y, rfl, hd⟩ := hh _ rfl
    simp only [Den] at hd; subst hd
    simp only [E.Holds] at he
    obtain ⟨⟨h1, h2⟩, rfl⟩ := he
    rw [hln rfl]
    refine ⟨_, ?_, by simp [Den]; rfl⟩
    simp [Instr.sliceAt, Instr.slice, Instr.sliceBounds, Instr.sliceBound, asIntOf, run_underlying ht, h1, h2, subB_eq]
  · rename_i k n k' m
    obtain ⟨y, rfl, hd⟩ := hl _ rfl
    obtain ⟨y', rfl, hd'⟩ := hh _ rfl
    simp only [Den] at hd hd'; subst hd; subst hd'
    simp only [E.Holds] at he
    obtain ⟨⟨h1, h2, h3⟩, rfl⟩ := he
    refine ⟨_, ?_, by simp [Den]; rfl⟩
    have h4 : 0 ≤ m := by omega
    have h5 : (m.toNat : Int) = m := by omega
    simp [Instr.sliceAt, Instr.slice, Instr.sliceBounds, Instr.sliceBound, asIntOf, run_underlying ht, h1, h2, h3, h4, h5, subB_eq]
  · exact he.elim

theorem evo_den {env : Env} {o : Oper} {fr : Fr} {a : Act} (hn : Need env o fr a) {x : Option Operand} {v : Option AV} (hx : ∀ y, x = some y → y ∈ o.op.operands) (h : evo fr x = some v) :
    (∀ u, v = some u → ∃ y, x.map a.eval = some y ∧ Den env u y) ∧ (v = none → x.map a.eval = none) := by
  cases x with
  | none => simp only [evo, Option.some.injEq] at h; subst h; simp
  | some y =>
    unfold evo at h
    simp only at h
    split at h
    · rename_i u hu
      cases h
      refine ⟨fun u' e => ?_, by simp⟩
      cases e
      exact ⟨_, rfl, ev_den hn (hx y rfl) hu⟩
    · cases h

theorem run_mapM {P : Program} {w : World} {α β : Type} {f : α → Sem β} {g : α → β} : ∀ {l : List α}, (∀ x ∈ l, (f x).run P w = .ok (g x) w) → (l.mapM f).run P w = .ok (l.map g) w
  | [], _ => by simp
  | x :: l, h => by
    rw [List.mapM_cons]
    simp only [Sem.run_bind, h x List.mem_cons_self, Result.andThen_ok, run_mapM (fun y hy => h y (List.mem_cons_of_mem _ hy)), Sem.run_pure, List.map_cons]

theorem run_places {P : Program} {w : World} {fields : Array Field} {fs : List (Nat × Nat)} (h6 : fields.size = fs.length)
    (h7 : ∀ (i off sz : Nat), fs[i]? = some (off, sz) → ∃ (f : Field) (i' : TypeInfo), fields[i]? = some f ∧ f.offset = off ∧ P.info? f.type = some i' ∧ i'.size = sz ∧ sz ≠ 0) :
    (fields.mapM fun f => (do pure (f.offset, ← sizeOf f.type) : Sem (Nat × Nat))).run P w = .ok fs.toArray w := by
  rw [Array.mapM_eq_mapM_toList, Sem.run_map]
  have hsz : ∀ f ∈ fields.toList, ∃ i', P.info? f.type = some i' := by
    intro f hf
    obtain ⟨i, hi⟩ := List.getElem?_of_mem hf
    have hlt : i < fs.length := by
      rw [← h6]; exact getElem?_lt (by simpa using hi)
    rcases hp : fs[i] with ⟨off, sz⟩
    obtain ⟨f', i', h8, _, h9, _⟩ := h7 i off sz (by rw [List.getElem?_eq_getElem hlt, hp])
    rw [Array.getElem?_toList, h8] at hi; cases hi
    exact ⟨i', h9⟩
  rw [run_mapM (g := fun f => (f.offset, P.cellsOf f.type)) (fun f hf => by
    obtain ⟨i', hi⟩ := hsz f hf
    simp [sizeOf, typeInfo, hi, Program.cellsOf])]
  simp only [Result.andThen_ok]
  congr 2
  apply List.ext_getElem?
  intro i
  rw [List.getElem?_map, Array.getElem?_toList]
  cases hp : fs[i]? with
  | none =>
    have : fields[i]? = none := by
      rw [Array.getElem?_eq_none_iff, h6]; exact List.getElem?_eq_none_iff.1 hp
    rw [this]; rfl
  | some p =>
    obtain ⟨off, sz⟩ := p
    obtain ⟨f, i', h8, h9, h10, h11, _⟩ := h7 i off sz hp
    rw [h8]; simp [h9, Program.cellsOf, h10, h11]

theorem field_place {P : Program} {w : World} {b o : Nat} {f : Field} {i' : TypeInfo} (h : P.info? f.type = some i') (hz : i'.size ≠ 0) : (fieldPlace ⟨b, o, none⟩ f).run P w = .ok ⟨b, o + f.offset, none⟩ w := by
  simp [fieldPlace, sizeOf, typeInfo, h, hz, addr_add]

theorem run_fieldAt {P : Program} {w : World} {t i b o off sz : Nat} {fields : Array Field} {fs : List (Nat × Nat)} (ht : (underlying t).run P w = .ok (.struct fields) w)
    (h7 : ∀ (i off sz : Nat), fs[i]? = some (off, sz) → ∃ (f : Field) (i' : TypeInfo), fields[i]? = some f ∧ f.offset = off ∧ P.info? f.type = some i' ∧ i'.size = sz ∧ sz ≠ 0)
    (hn : nth fs i = some (off, sz)) : (Instr.fieldAt t (.pointer (some ⟨b, o, none⟩)) i).run P w = .ok (.pointer (some ⟨b, o + off, none⟩)) w := by
  rw [nth_eq] at hn
  obtain ⟨f, i', h8, h9, h10, h11, h12⟩ := h7 i off sz hn
  simp [Instr.fieldAt, ht, h8, Instr.sureAddr, field_place h10 (by rw [h11]; exact h12), h9]

theorem zero_agg {z : List AV} {zv : Value} {env : Env} (h6 : Dens env z zv.cells.toList ∧ aggV zv = true) : Den env (.agg z) zv := by
  obtain ⟨h6, h7⟩ := h6
  cases zv <;> simp only [aggV] at h7 <;> try (cases h7; done)
  simp only [Den]
  exact ⟨_, rfl, by simpa [Value.cells] using h6⟩

theorem zero_one {z : AV} {zv : Value} {env : Env} (h6 : Dens env [z] zv.cells.toList ∧ aggV zv = false) : Den env z zv := by
  obtain ⟨h6, h7⟩ := h6
  have : zv.cells = #[zv] := by cases zv <;> first | rfl | (cases h7; done)
  rw [this] at h6
  simp only [Dens] at h6
  obtain ⟨y, ys, h8, h9, rfl⟩ := h6
  simp at h8; subst h8; exact h9

theorem aOp_ok {P : Program} {T : Tab} (hT : TabOK P T) {fr : Fr} {o : Oper} {v : AV} (h : (aOp T fr o.op).Holds v) {env : Env} {a : Act} {w : World} (hn : Need env o fr a) :
    ∃ x, (execOp a.eval o).run P w = .ok (.value x) w ∧ Den env v x := by
  obtain ⟨dst, op, ty, pos, after, guard⟩ := o
  have hev : ∀ {x : Operand} {u : AV}, x ∈ op.operands → ev fr x = some u → Den env u (a.eval x) := fun hx he => ev_den hn hx he
  cases op <;> (try (exact h.elim))
  case move x =>
    simp only [aOp] at h
    exact ⟨a.eval x, rfl, hev (by simp [Op.operands]) (optE_holds h)⟩
  case assign x =>
    simp only [aOp] at h
    exact ⟨a.eval x, rfl, hev (by simp [Op.operands]) (optE_holds h)⟩
  case build t ps =>
    simp only [aOp] at h
    split at h
    · rename_i sz z fs fl vs hr hv
      split at h
      · rename_i cs hf
        simp only [E.Holds] at h; subst h
        obtain ⟨h1, ⟨zv, h2, h3⟩, ⟨d, h4, h5, fields, rfl, h6, h7⟩, _⟩ := row_info hT hr w
        have hp := evps_den hn (by intro p hp; simp only [Op.operands]; simp; exact ⟨p.1, by simpa using hp⟩) hv
        obtain ⟨ys, h8, h9⟩ := fill_ok (place := nth fs) hp (h3 env).1 hf
        refine ⟨.agg ys, ?_, by simp only [Den]; exact ⟨ys, rfl, h9⟩⟩
        have hmap := run_places (P := P) (w := w) h6 h7
        have hpl : (fun i => fs.toArray[i]?) = nth fs := by funext i; rw [nth_eq]; simp
        simp only [execOp, Instr.build, Sem.run_bind, h2, h4, Result.andThen_ok, hmap, Array.toList_map, hpl, h8, Sem.run_pure]
      · exact h.elim
    · rename_i sz z n e vs hr hv
      split at h
      · rename_i ag sz' z' k' hre
        split at h
        · rename_i cs hf
          simp only [E.Holds] at h; subst h
          obtain ⟨h1, ⟨zv, h2, h3⟩, ⟨d, h4, h5, h6⟩, _⟩ := row_info hT hr w
          simp only [KindOK] at h6; subst h6
          have hse := (row_info hT hre w).1
          have hp := evps_den hn (by intro p hp; simp only [Op.operands]; simp; exact ⟨p.1, by simpa using hp⟩) hv
          obtain ⟨ys, h8, h9⟩ := fill_ok (place := fun i => some (i * sz', sz')) hp (h3 env).1 hf
          refine ⟨.agg ys, ?_, by simp only [Den]; exact ⟨ys, rfl, h9⟩⟩
          simp only [execOp, Instr.build, Sem.run_bind, h2, h4, Result.andThen_ok, hse, Array.toList_map, h8, Sem.run_pure]
        · exact h.elim
      · exact h.elim
    · exact h.elim
  case nilCheck x =>
    simp only [aOp] at h
    split at h <;> (try (exact h.elim)) <;> rename_i he <;> simp only [E.Holds] at h <;> subst h
    all_goals
      have hd := hev (by simp [Op.operands]) he
      have hd' := hd
      simp only [Den] at hd
    · obtain ⟨b, _, hx⟩ := hd; exact ⟨a.eval x, by simp [execOp, hx], hd'⟩
    · obtain ⟨b, o, l, c, _, hx⟩ := hd; exact ⟨a.eval x, by simp [execOp, hx], hd'⟩
    · obtain ⟨y, hx, _⟩ := hd; exact ⟨a.eval x, by simp [execOp, hx], hd'⟩
    · obtain ⟨xs, ys, hx, _, _⟩ := hd; exact ⟨a.eval x, by simp [execOp, hx], hd'⟩
  case binOp op t x y yt =>
    simp only [aOp] at h
    split at h
    · rename_i v1 v2 h1 h2
      obtain ⟨r, h3, h4⟩ := aBin_ok hT (w := w) (xo := x) h2 (hev (by simp [Op.operands]) h1) (hev (by simp [Op.operands]) h2) h
      refine ⟨r, ?_, h4⟩
      show (do pure (Next.value (← (do eqGuard op t x y (a.eval x) (a.eval y); binOp op t (a.eval x) (a.eval y) : Sem Value))) : Sem Next).run P w = _
      rw [Sem.run_bind, h3]; rfl
    · exact h.elim
  case unOp op t x =>
    simp only [aOp] at h
    split at h
    · rename_i v1 h1
      obtain ⟨r, h3, h4⟩ := aUn_ok (P := P) (w := w) (hev (by simp [Op.operands]) h1) h
      exact ⟨r, by simp [execOp, h3], h4⟩
    · exact h.elim
  case convert s d x =>
    simp only [aOp] at h
    split at h <;> (try (exact h.elim)) <;> simp only [E.Holds] at h <;> subst h
    · rename_i k1 k2 k3 n h1 h2 h3
      obtain ⟨d1, e1, rfl⟩ := kind_run hT h1 (by simp) w
      obtain ⟨d2, e2, rfl⟩ := kind_run hT h2 (by simp) w
      have hd := hev (by simp [Op.operands]) h3
      simp only [Den] at hd
      exact ⟨.int k2 (k2.wrap n), by simp [execOp, convert, e1, e2, hd, Conv.intToInt], by simp [Den]⟩
    · rename_i s1 h1 h2 h3
      obtain ⟨d1, e1, rfl⟩ := kind_run hT h1 (by simp) w
      obtain ⟨d2, e2, rfl⟩ := kind_run hT h2 (by simp) w
      have hd := hev (by simp [Op.operands]) h3
      simp only [Den] at hd
      exact ⟨.string s1, by simp [execOp, convert, e1, e2, hd], by simp [Den]⟩
  case makeInterface t x =>
    simp only [aOp] at h
    split at h
    · exact h.elim
    · rename_i r v1 hni hr h1
      simp only [E.Holds] at h; subst h
      obtain ⟨_, _, ⟨d, h4, h5, h6⟩, _⟩ := row_info hT hr w
      have hd := hev (by simp [Op.operands]) h1
      refine ⟨.iface t (a.eval x), ?_, by simp only [Den]; exact ⟨_, rfl, hd⟩⟩
      have hk : ∀ m, d ≠ .interface m := by
        intro m e
        subst e
        obtain ⟨ag, sz, z, k⟩ := r
        have := kind_iface h6; simp only at this; subst this; exact hni _ _ _ rfl
      simp only [execOp, Instr.makeInterface, Sem.run_bind, h4, Result.andThen_ok]
      cases d <;> first | rfl | (exact absurd rfl (hk _))
    · exact h.elim
  case makeFunc f l m =>
    simp only [aOp] at h
    split at h
    · rename_i vs us h1 h2
      simp only [E.Holds] at h; subst h
      have d1 := evs_den hn (by intro x hx; simp only [Op.operands]; exact Array.mem_append.2 (.inl (by simpa using hx))) h1
      have d2 := evs_den hn (by intro x hx; simp only [Op.operands]; exact Array.mem_append.2 (.inr (by simpa using hx))) h2
      exact ⟨.func f (l.map a.eval) (m.map a.eval), by simp [execOp, Instr.makeFunc], by simp only [Den]; exact ⟨_, _, rfl, by simpa using d1, by simpa using d2⟩⟩
    · exact h.elim
  case fieldAddr t x i =>
    simp only [aOp] at h
    split at h
    · rename_i fs fl hh k hk he
      split at h
      · rename_i off sz hf
        simp only [E.Holds] at h; subst h
        obtain ⟨d, h4, fields, rfl, h6, h7⟩ := kind_run hT hk (by simp) w
        have hd := hev (by simp [Op.operands]) he
        simp only [Den] at hd
        obtain ⟨b, hb, hx⟩ := hd
        exact ⟨.pointer (some ⟨b, k + off, none⟩), by simp [execOp, hx, run_fieldAt h4 h7 hf], by simp only [Den]; exact ⟨b, hb, rfl⟩⟩
      · exact h.elim
    · rename_i fs fl hh z j k hk he
      split at h
      · rename_i off sz hf
        simp only [E.Holds] at h; subst h
        obtain ⟨d, h4, fields, rfl, h6, h7⟩ := kind_run hT hk (by simp) w
        have hd := hev (by simp [Op.operands]) he
        simp only [Den] at hd
        obtain ⟨b, o, l, c, hb, hx⟩ := hd
        exact ⟨.pointer (some ⟨b, o + (j * z + k) + off, none⟩), by simp [execOp, hx, run_fieldAt h4 h7 hf], by simp only [Den]; exact ⟨b, o, l, c, hb, by rw [Nat.add_assoc, Nat.add_assoc]⟩⟩
      · exact h.elim
    · exact h.elim
  case extract x i =>
    simp only [aOp] at h
    split at h
    · rename_i l he
      have hd := hev (by simp [Op.operands]) he
      simp only [Den] at hd
      obtain ⟨xs, hx, hds⟩ := hd
      obtain ⟨y, h1, h2⟩ := nth_den hds (optE_holds h)
      exact ⟨y, by simp [execOp, Instr.extract, hx, by simpa using h1], h2⟩
    · exact h.elim
  case indexAddr t x i =>
    simp only [aOp] at h
    split at h
    · rename_i e hh len k n hk hx hi
      split at h
      · rename_i ag sz z k' hre
        simp only [E.Holds] at h
        obtain ⟨⟨g1, g2⟩, rfl⟩ := h
        obtain ⟨d, h4, rfl⟩ := kind_run hT hk (by simp) w
        have hse := (row_info hT hre w).1
        have d1 := hev (by simp [Op.operands]) hx
        have d2 := hev (by simp [Op.operands]) hi
        simp only [Den] at d1 d2
        obtain ⟨hb, p, cap, hx, hp⟩ := d1
        obtain ⟨b, o, rfl⟩ := hp (by omega)
        refine ⟨.pointer (some ⟨b, o + n.toNat * sz, none⟩), ?_, by simp only [Den]; exact ⟨b, o, len, cap, by rw [hb, hx], rfl⟩⟩
        simp [execOp, Instr.indexAt, asIntOf, d2, h4, hx, g1, g2, hse, addr_add]
      · exact h.elim
    · rename_i m e hh off k n hk hx hi
      split at h
      · rename_i ag sz z k' hre
        simp only [E.Holds] at h
        obtain ⟨⟨g1, g2⟩, rfl⟩ := h
        obtain ⟨d, h4, rfl⟩ := kind_run hT hk (by simp) w
        have hse := (row_info hT hre w).1
        have d1 := hev (by simp [Op.operands]) hx
        have d2 := hev (by simp [Op.operands]) hi
        simp only [Den] at d1 d2
        obtain ⟨b, hb, hx⟩ := d1
        refine ⟨.pointer (some ⟨b, off + n.toNat * sz, none⟩), ?_, by simp only [Den]; exact ⟨b, hb, rfl⟩⟩
        simp [execOp, Instr.indexAt, asIntOf, d2, h4, hx, Instr.sureAddr, g1, g2, hse, addr_add]
      · exact h.elim
    · exact h.elim
  case index t x i =>
    simp only [aOp] at h
    split at h
    · rename_i s k n hk hx hi
      simp only [E.Holds] at h
      obtain ⟨⟨g1, g2⟩, rfl⟩ := h
      obtain ⟨d, h4, rfl⟩ := kind_run hT hk (by simp) w
      have d1 := hev (by simp [Op.operands]) hx
      have d2 := hev (by simp [Op.operands]) hi
      simp only [Den] at d1 d2
      have hlt : n.toNat < s.size := by omega
      have hg : s[n.toNat]? = some (s[n.toNat]'hlt) := by simp [hlt]
      refine ⟨.int .u8 (byteAt s n), ?_, by simp [Den]⟩
      simp [execOp, Instr.index, asIntOf, d1, d2, h4, g1, hg, byteAt]
    · exact h.elim
  case slice t x lo hi mx =>
    cases mx with
    | some m => exact h.elim
    | none =>
      simp only [aOp] at h
      split at h
      · rename_i s l u hk hx hl hu
        obtain ⟨d, h4, h5⟩ := kindOf_ok hT hk (by simp)
        simp only [KindOK] at h5; subst h5
        have d1 := hev (by simp [Op.operands]) hx
        simp only [Den] at d1
        have k1 := evo_den hn (by intro y hy; subst hy; simp [Op.operands]) hl
        have k2 := evo_den hn (by intro y hy; subst hy; simp [Op.operands]) hu
        obtain ⟨z, g1, g2⟩ := sliceE_ok (P := P) (w := w) (env := env) (t := t) h4 k1.1 k1.2 k2.1 k2.2 h
        exact ⟨z, by simp [execOp, d1, g1], g2⟩
      · exact h.elim
  case typeAssert x xt t ok =>
    simp only [aOp] at h
    have zer : ∀ {ag : Bool} {sz : Nat} {z : List AV} {k : TK}, T t = some ⟨ag, sz, z, k⟩ → ∃ zv, (zeroValue t).run P w = .ok zv w ∧ Dens env z zv.cells.toList ∧ aggV zv = ag := by
      intro ag sz z k hr
      obtain ⟨_, ⟨zv, h2, h3⟩, _⟩ := row_info hT hr w
      exact ⟨zv, h2, h3 env⟩
    have und : ∀ {r : TRow}, T t = some r → (∀ ag sz z, r ≠ ⟨ag, sz, z, .iface⟩) → ∃ d, (underlying t).run P w = .ok d w ∧ ∀ m, d ≠ .interface m := by
      intro r hr hni
      obtain ⟨_, _, ⟨d, h4, h5, h6⟩, _⟩ := row_info hT hr w
      refine ⟨d, h4, ?_⟩
      intro m e
      subst e
      obtain ⟨ag, sz, z, k⟩ := r
      have := kind_iface h6; simp only at this; subst this; exact hni _ _ _ rfl
    split at h
    · exact h.elim
    · rename_i ag sz z k t' v1 hni hr he
      obtain ⟨d, h4, hdi⟩ := und hr (by rintro a' b' c' e; cases e; exact hni rfl)
      obtain ⟨zv, h5, h6⟩ := zer hr
      have hd := hev (by simp [Op.operands]) he
      simp only [Den] at hd
      obtain ⟨y, hx, hy⟩ := hd
      split at h
      · rename_i hb
        have hb := Nat.eq_of_beq_eq_true hb
        subst hb
        simp only [E.Holds] at h; subst h
        refine ⟨.tuple #[y, .bool true], ?_, by simp only [Den]; exact ⟨_, rfl, by simp [Dens, Den, hy]⟩⟩
        simp only [execOp, Instr.typeAssert, Sem.run_bind, h4, Result.andThen_ok, hx]
        cases d <;> first | (simp; done) | (exact absurd rfl (hdi _))
      · rename_i hb
        have hne : t' ≠ t := by rintro rfl; simp [Nat.beq_refl] at hb
        have fin : ∀ {u : AV}, Den env u zv → ∃ x_1, (execOp a.eval ⟨dst, .typeAssert x xt t true, ty, pos, after, guard⟩).run P w = .ok (.value x_1) w ∧ Den env (.tup [u, .bool false]) x_1 := by
          intro u hu
          refine ⟨.tuple #[zv, .bool false], ?_, by simp only [Den]; exact ⟨_, rfl, by simp [Dens, Den, hu]⟩⟩
          simp only [execOp, Instr.typeAssert, Sem.run_bind, h4, Result.andThen_ok, hx]
          cases d <;> first | (simp [hne, h5]; done) | (exact absurd rfl (hdi _))
        split at h
        · simp only [E.Holds] at h; subst h
          exact fin (zero_agg h6)
        · simp only [E.Holds] at h; subst h
          exact fin (zero_one h6)
        · exact h.elim
    · rename_i ag sz z k hni hr he
      obtain ⟨d, h4, hdi⟩ := und hr (by rintro a' b' c' e; cases e; exact hni rfl)
      obtain ⟨zv, h5, h6⟩ := zer hr
      have hd := hev (by simp [Op.operands]) he
      simp only [Den] at hd
      have fin : ∀ {u : AV}, Den env u zv → ∃ x_1, (execOp a.eval ⟨dst, .typeAssert x xt t true, ty, pos, after, guard⟩).run P w = .ok (.value x_1) w ∧ Den env (.tup [u, .bool false]) x_1 := by
        intro u hu
        refine ⟨.tuple #[zv, .bool false], ?_, by simp only [Den]; exact ⟨_, rfl, by simp [Dens, Den, hu]⟩⟩
        simp only [execOp, Instr.typeAssert, Sem.run_bind, h4, Result.andThen_ok, hd]
        cases d <;> first | (simp [h5]; done) | (exact absurd rfl (hdi _))
      split at h
      · simp only [E.Holds] at h; subst h
        exact fin (zero_agg h6)
      · simp only [E.Holds] at h; subst h
        exact fin (zero_one h6)
      · exact h.elim
    · rename_i r t' v1 hni hr he
      obtain ⟨d, h4, hdi⟩ := und hr (by rintro a' b' c' e; exact hni _ _ _ e)
      have hd := hev (by simp [Op.operands]) he
      simp only [Den] at hd
      obtain ⟨y, hx, hy⟩ := hd
      split at h
      · rename_i hb
        have hb := Nat.eq_of_beq_eq_true hb
        subst hb
        simp only [E.Holds] at h; subst h
        refine ⟨y, ?_, hy⟩
        simp only [execOp, Instr.typeAssert, Sem.run_bind, h4, Result.andThen_ok, hx]
        cases d <;> first | (simp; done) | (exact absurd rfl (hdi _))
      · exact h.elim
    · exact h.elim
  case call c =>
    obtain ⟨cal, xs, ts⟩ := c
    cases cal with
    | value f => exact h.elim
    | invoke r m => exact h.elim
    | builtin b =>
      have ops : ∀ x ∈ xs.toList, x ∈ (Op.call { callee := .builtin b, args := xs, argTypes := ts }).operands := by
        intro x hx; simp only [Op.operands, Call.operands]; simpa using hx
      cases b <;> (try (exact h.elim))
      case len =>
        simp only [aOp] at h
        split at h
        · rename_i x t hxs hts
          have hx1 : xs = #[x] := by apply Array.ext'; simpa using hxs
          have ht1 : ts = #[t] := by apply Array.ext'; simpa using hts
          subst hx1; subst ht1
          split at h <;> (try (exact h.elim)) <;> simp only [E.Holds] at h <;> subst h
          · rename_i s hk he
            obtain ⟨d, h4, rfl⟩ := kind_run hT hk (by simp) w
            have d1 := hev (ops x (by simp)) he
            simp only [Den] at d1
            exact ⟨.int .i64 s.size, by simp [execOp, resolve, invoke, builtin, Builtin.len_, d1, h4, goInt], by simp [Den]⟩
          · rename_i e hh n hk he
            obtain ⟨d, h4, rfl⟩ := kind_run hT hk (by simp) w
            have d1 := hev (ops x (by simp)) he
            simp only [Den] at d1
            obtain ⟨_, p, cap, d1, _⟩ := d1
            exact ⟨.int .i64 n, by simp [execOp, resolve, invoke, builtin, Builtin.len_, d1, h4, goInt], by simp [Den]⟩
          · rename_i e hk he
            obtain ⟨d, h4, rfl⟩ := kind_run hT hk (by simp) w
            have d1 := hev (ops x (by simp)) he
            simp only [Den] at d1
            exact ⟨.int .i64 0, by simp [execOp, resolve, invoke, builtin, Builtin.len_, d1, h4, goInt], by simp [Den]⟩
        · exact h.elim
      case max =>
        simp only [aOp] at h
        split at h
        · rename_i k a1 k2 b1 he
          simp only [E.Holds] at h; subst h
          have d1 := evs_den hn ops he
          simp only [Dens, Den] at d1
          obtain ⟨y, ys, e1, rfl, y2, ys2, e2, rfl, rfl⟩ := d1
          subst e2
          refine ⟨.int k (max a1 b1), ?_, by simp [Den]⟩
          have e4 : (if b1 > a1 then b1 else a1) = max a1 b1 := by split <;> omega
          simp [execOp, resolve, invoke, builtin, Builtin.max_, e1, Builtin.max2, e4]
        · exact h.elim
      case min =>
        simp only [aOp] at h
        split at h
        · rename_i k a1 k2 b1 he
          simp only [E.Holds] at h; subst h
          have d1 := evs_den hn ops he
          simp only [Dens, Den] at d1
          obtain ⟨y, ys, e1, rfl, y2, ys2, e2, rfl, rfl⟩ := d1
          subst e2
          refine ⟨.int k (min a1 b1), ?_, by simp [Den]⟩
          have e4 : (if b1 < a1 then b1 else a1) = min a1 b1 := by split <;> omega
          simp [execOp, resolve, invoke, builtin, Builtin.min_, e1, Builtin.min2, e4]
        · exact h.elim

end
end Go.SX
