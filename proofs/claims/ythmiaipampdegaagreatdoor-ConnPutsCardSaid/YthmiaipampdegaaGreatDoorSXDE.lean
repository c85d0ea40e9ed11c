/- SX, part DE: equality of values of a flat type. -/
import Derived.Test.YthmiaipampdegaaGreatDoorSXD
import Derived.Laws.StructEq
namespace Go.SX
noncomputable section

theorem bytesEq {a b : ByteArray} : (a.toList == b.toList) = decide (a = b) := by
  rw [ByteArray.toList_eq, ByteArray.toList_eq]
  by_cases h : a = b
  · subst h; simp
  · simp only [h, decide_false, beq_eq_false_iff_ne, ne_eq]
    intro e
    obtain ⟨⟨x⟩⟩ := a
    obtain ⟨⟨y⟩⟩ := b
    exact h (by simpa using e)

/-- The kind of one cell. -/
inductive LK where
  | int (k : IntKind) | str | bool

def LK.fits : LK → Value → Prop
  | .int k, v => ∃ n, v = .int k n
  | .str, v => ∃ s, v = .string s
  | .bool, v => ∃ b, v = .bool b

def LKs : List LK → List Value → Prop
  | [], vs => vs = []
  | k :: l, vs => ∃ v t, vs = v :: t ∧ k.fits v ∧ LKs l t

theorem LKs.length : ∀ {l : List LK} {vs : List Value}, LKs l vs → vs.length = l.length
  | [], _, h => by simp [LKs] at h; simp [h]
  | k :: l, _, ⟨v, t, h1, _, h3⟩ => by subst h1; simp [LKs.length h3]

theorem LKs.append : ∀ {l m : List LK} {vs : List Value}, LKs (l ++ m) vs → LKs l (vs.take l.length) ∧ LKs m (vs.drop l.length)
  | [], m, vs, h => ⟨by simp [LKs], by simpa using h⟩
  | k :: l, m, _, ⟨v, t, h1, h2, h3⟩ => by
    subst h1
    obtain ⟨h4, h5⟩ := LKs.append h3
    exact ⟨⟨v, _, by simp, h2, h4⟩, by simpa using h5⟩

def eqC : Value → Value → Bool
  | .int _ a, .int _ b => decide (a = b)
  | .string a, .string b => decide (a = b)
  | .bool a, .bool b => a == b
  | _, _ => false

def eqCs : List Value → List Value → Bool
  | [], [] => true
  | v :: l, u :: m => eqC v u && eqCs l m
  | _, _ => false

theorem eqCs_append : ∀ {a b c d : List Value}, a.length = b.length → eqCs (a ++ c) (b ++ d) = (eqCs a b && eqCs c d)
  | [], [], c, d, _ => by simp [eqCs]
  | [], _ :: _, _, _, h => by simp at h
  | _ :: _, [], _, _, h => by simp at h
  | v :: a, u :: b, c, d, h => by
    simp only [List.cons_append, eqCs]
    rw [eqCs_append (by simpa using h), Bool.and_assoc]

def flatF (P : Program) (g : TypeId → Option (List LK)) : Nat → List Field → Option (List LK)
  | _, [] => some []
  | off, f :: fs => match Nat.beq f.offset off && (f.name != "_"), g f.type, P.info? f.type with
    | true, some ks, some i => match Nat.beq i.size ks.length, flatF P g (off + ks.length) fs with
      | true, some r => some (ks ++ r)
      | _, _ => none
    | _, _, _ => none

/-- The cells of a type that is made of integers, strings and bools alone. -/
def flatT (P : Program) : Nat → TypeId → Option (List LK)
  | 0, _ => none
  | d + 1, t => match P.underlying t with
    | some (.int k) => some [.int k]
    | some .string => some [.str]
    | some .bool => some [.bool]
    | some (.struct fields) => match P.stoodInHeld t with
      | false => flatF P (flatT P d) 0 fields.toList
      | true => none
    | _ => none

/-- A value of such a type. -/
def FitT (P : Program) (t : TypeId) (ks : List LK) (x : Value) : Prop :=
  (∃ k, ks = [k] ∧ k.fits x ∧ ∃ d, P.underlying t = some d ∧ (match k with | .int j => d = .int j | .str => d = .string | .bool => d = .bool)) ∨ (∃ xs fs, x = .agg xs ∧ P.underlying t = some (.struct fs) ∧ LKs ks xs.toList)

theorem isAgg_run {P : Program} {t : TypeId} {d : TypeDesc} (h : P.underlying t = some d) (w : World) : (isAgg t).run P w = .ok (match d with | .struct _ | .array _ _ => true | _ => false) w := by
  unfold isAgg
  simp only [Sem.run_bind, run_underlying h, Result.andThen_ok]
  cases d <;> rfl

theorem flatT_cases {P : Program} {d : Nat} {t : TypeId} {ks : List LK} (h : flatT P d t = some ks) :
    (∃ k, ks = [k] ∧ ∃ dd, P.underlying t = some dd ∧ (match k with | .int j => dd = .int j | .str => dd = .string | .bool => dd = .bool)) ∨
    ∃ e fs, d = e + 1 ∧ P.underlying t = some (.struct fs) ∧ P.stoodInHeld t = false ∧ flatF P (flatT P e) 0 fs.toList = some ks := by
  cases d with
  | zero => simp [flatT] at h
  | succ e =>
    unfold flatT at h
    split at h
    · rename_i k hu; cases h; exact .inl ⟨_, rfl, _, hu, rfl⟩
    · rename_i hu; cases h; exact .inl ⟨_, rfl, _, hu, rfl⟩
    · rename_i hu; cases h; exact .inl ⟨_, rfl, _, hu, rfl⟩
    · rename_i fs hu
      split at h
      · rename_i hs; exact .inr ⟨e, fs, rfl, hu, hs, h⟩
      · cases h
    · cases h

theorem part_fit {P : Program} {d : Nat} {t : TypeId} {ks : List LK} {i : TypeInfo} {cs : Array Value} {off : Nat} {w : World} (hf : flatT P d t = some ks) (hi : P.info? t = some i) (hs : i.size = ks.length)
    (h : LKs ks ((cs.toList.drop off).take ks.length)) : ∃ x, (part t cs off).run P w = .ok x w ∧ FitT P t ks x ∧ x.cells.toList = (cs.toList.drop off).take ks.length := by
  rcases flatT_cases hf with ⟨k, rfl, dd, hu, hk⟩ | ⟨e, fs, rfl, hu, _, _⟩
  · obtain ⟨v, t', h1, h2, h3⟩ := h
    simp only [LKs] at h3
    subst h3
    have hv : cs[off]? = some v := by
      have : ((cs.toList.drop off).take 1)[0]? = some v := by rw [show [k].length = 1 from rfl] at h1; rw [h1]; rfl
      simpa using this
    have hna : (isAgg t).run P w = .ok false w := by
      rw [isAgg_run hu]
      cases k <;> simp only at hk <;> subst hk <;> rfl
    refine ⟨v, ?_, .inl ⟨k, rfl, h2, dd, hu, hk⟩, ?_⟩
    · unfold part
      simp only [Sem.run_bind, hna, Result.andThen_ok, Bool.false_eq_true, if_false, hv, Sem.run_pure]
    · rw [h1]
      cases k <;> obtain ⟨n, rfl⟩ := h2 <;> simp [Value.cells]
  · refine ⟨.agg (cs.extract off (off + ks.length)), ?_, .inr ⟨_, fs, rfl, hu, ?_⟩, ?_⟩
    · unfold part
      simp [isAgg_run hu, sizeOf, typeInfo, hi, hs]
    · have : (cs.extract off (off + ks.length)).toList = (cs.toList.drop off).take ks.length := by simp [List.extract]
      rw [this]; exact h
    · simp [Value.cells, List.extract]

theorem eqFields_fit {P : Program} {D d : Nat} (IH : ∀ {t ks x y w}, flatT P d t = some ks → FitT P t ks x → FitT P t ks y → (Op.equalIn D t x y).run P w = .ok (eqCs x.cells.toList y.cells.toList) w) {xs ys : Array Value} {w : World} :
    ∀ {fs : List Field} {off : Nat} {ks : List LK}, flatF P (flatT P d) off fs = some ks → LKs ks (xs.toList.drop off) → LKs ks (ys.toList.drop off) →
      (Op.eqFields D xs ys fs).run P w = .ok (eqCs (xs.toList.drop off) (ys.toList.drop off)) w
  | [], off, ks, h, hx, hy => by
    simp only [flatF, Option.some.injEq] at h
    subst h
    simp only [LKs] at hx hy
    rw [hx, hy]
    simp [Op.eqFields, eqCs]
  | f :: fs, off, ks, h, hx, hy => by
    unfold flatF at h
    split at h
    · rename_i k1 i hb hk hi
      simp only [Bool.and_eq_true, bne_iff_ne, ne_eq] at hb
      obtain ⟨hoff, hname⟩ := hb
      have hoff := Nat.eq_of_beq_eq_true hoff
      subst hoff
      split at h
      · rename_i r hsz hr
        cases h
        have hsz := Nat.eq_of_beq_eq_true hsz
        obtain ⟨x1, x2⟩ := LKs.append hx
        obtain ⟨y1, y2⟩ := LKs.append hy
        obtain ⟨x, p1, p2, p3⟩ := part_fit (w := w) hk hi hsz x1
        obtain ⟨y, q1, q2, q3⟩ := part_fit (w := w) hk hi hsz y1
        rw [List.drop_drop] at x2 y2
        have ih := eqFields_fit IH (w := w) hr x2 y2
        have heq := IH (w := w) hk p2 q2
        rw [p3, q3] at heq
        have hsplit : eqCs (xs.toList.drop f.offset) (ys.toList.drop f.offset) = (eqCs ((xs.toList.drop f.offset).take k1.length) ((ys.toList.drop f.offset).take k1.length) && eqCs (xs.toList.drop (f.offset + k1.length)) (ys.toList.drop (f.offset + k1.length))) := by
          rw [← List.drop_drop, ← List.drop_drop (l := ys.toList), ← eqCs_append (by rw [LKs.length x1, LKs.length y1]), List.take_append_drop, List.take_append_drop]
        unfold Op.eqFields
        rw [if_pos hname]
        simp only [Sem.run_bind, p1, q1, Result.andThen_ok, heq]
        rw [hsplit]
        cases eqCs ((xs.toList.drop f.offset).take k1.length) ((ys.toList.drop f.offset).take k1.length) with
        | true => simpa using ih
        | false => simp
      · cases h
    · cases h

theorem equalIn_fit {P : Program} : ∀ {d D : Nat} {t : TypeId} {ks : List LK} {x y : Value} {w : World}, d ≤ D → flatT P d t = some ks → FitT P t ks x → FitT P t ks y →
    (Op.equalIn D t x y).run P w = .ok (eqCs x.cells.toList y.cells.toList) w := by
  intro d
  induction d with
  | zero => intro D t ks x y w _ h; simp [flatT] at h
  | succ d ih =>
    intro D t ks x y w hle h hx hy
    obtain ⟨D', rfl⟩ : ∃ D', D = D' + 1 := ⟨D - 1, by omega⟩
    rcases hx with ⟨k, rfl, hkx, dd, hu, hk⟩ | ⟨xs, fs, rfl, hu, hxs⟩
    · have hy' : k.fits y := by
        rcases hy with ⟨k', e, hky, _⟩ | ⟨ys, fs, rfl, hu', _⟩
        · cases e; exact hky
        · rw [hu] at hu'; cases hu'; cases k <;> simp only at hk <;> cases hk
      cases k with
      | int j =>
        simp only at hk; subst hk
        obtain ⟨a, rfl⟩ := hkx; obtain ⟨b, rfl⟩ := hy'
        rw [run_equalIn_int w D' t j j a b hu]
        simp only [Value.cells, eqCs, eqC, Bool.and_true]
        rfl
      | str =>
        simp only at hk; subst hk
        obtain ⟨a, rfl⟩ := hkx; obtain ⟨b, rfl⟩ := hy'
        rw [run_equalIn_string w D' t a b hu, bytesEq]
        simp only [Value.cells, eqCs, eqC, Bool.and_true]
      | bool =>
        simp only at hk; subst hk
        obtain ⟨a, rfl⟩ := hkx; obtain ⟨b, rfl⟩ := hy'
        rw [Go.run_equalIn_bool' w D' t a b hu]
        simp [Value.cells, eqCs, eqC]
    · rcases hy with ⟨k', _, _, dd, hu', hk⟩ | ⟨ys, fs', rfl, hu', hys⟩
      · rw [hu] at hu'; cases hu'; cases k' <;> simp only at hk <;> cases hk
      · rcases flatT_cases h with ⟨k, rfl, dd, hu2, hk⟩ | ⟨e, fs2, he, hu2, hst, hfl⟩
        · rw [hu] at hu2; cases hu2; cases k <;> simp only at hk <;> cases hk
        · cases he
          rw [hu] at hu2; cases hu2
          have hfo : P.fieldsOf t = fs := by unfold Program.fieldsOf; rw [hu]
          rw [run_equalIn_struct w D' t xs ys (by rw [hfo]; exact hu) hst, hfo]
          have := eqFields_fit (D := D') (d := d) (xs := xs) (ys := ys) (w := w) (fun {t ks x y w} a b c => ih (by omega) a b c) hfl (by simpa using hxs) (by simpa using hys)
          rw [this]
          simp [Value.cells]

theorem forIn_check {P : Program} {w : World} {α : Type} {g : α → Go.Sem (ForInStep PUnit)} {c : α → Prop} [DecidablePred c] : ∀ {l : List α}, (∀ x ∈ l, (g x).run P w = .ok (.yield PUnit.unit) w) →
    (forIn l PUnit.unit (fun x _ => if c x then g x else pure (ForInStep.yield PUnit.unit)) : Go.Sem PUnit).run P w = .ok PUnit.unit w
  | [], _ => by simp
  | x :: l, h => by
    have h1 := h x List.mem_cons_self
    have h2 := forIn_check (P := P) (w := w) (c := c) (l := l) fun y hy => h y (List.mem_cons_of_mem _ hy)
    rw [List.forIn_cons]
    by_cases hc : c x
    · simp only [hc, if_true, Sem.run_bind, h1, Result.andThen_ok]
      exact h2
    · simp only [hc, if_false, Sem.run_bind, Result.andThen_ok, Sem.run_pure]
      exact h2

/-- The first entry at a key. -/
def findE (x : List Value) : List MapEntry → Nat → Option (Nat × Value)
  | [], _ => none
  | e :: l, i => match eqCs x e.key.cells.toList with
    | true => some (i, e.val)
    | false => findE x l (i + 1)

theorem findAsking_fit {P : Program} {k : TypeId} {ks : List LK} {x : Value} {w : World} (hk : flatT P 100 k = some ks) (hx : FitT P k ks x) : ∀ {es : List MapEntry} {i : Nat}, (∀ e ∈ es, FitT P k ks e.key) →
    (Instr.findAsking k x es i).run P w = .ok (findE x.cells.toList es i) w
  | [], i, _ => by simp [Instr.findAsking, findE]
  | e :: es, i, h => by
    have h1 := equalIn_fit (w := w) (D := 10000) (by omega) hk hx (h e List.mem_cons_self)
    have h2 := findAsking_fit (w := w) hk hx (es := es) (i := i + 1) fun y hy => h y (List.mem_cons_of_mem _ hy)
    unfold Instr.findAsking findE
    simp only [Sem.run_bind, Op.equal, Op.maxDepth, h1, Result.andThen_ok]
    cases eqCs x.cells.toList e.key.cells.toList with
    | true => simp
    | false => simpa using h2

theorem findNow_scalar {P : Program} {k : TypeId} {j : LK} {x : Value} {d : TypeDesc} (hu : P.underlying k = some d) (hd : match j with | .int q => d = .int q | .str => d = .string | .bool => d = .bool) (hx : j.fits x) :
    ∀ {es : List MapEntry} {i : Nat}, (∀ e ∈ es, FitT P k [j] e.key) → Instr.findNow d x es i = some (findE x.cells.toList es i)
  | [], i, _ => rfl
  | e :: es, i, h => by
    have h2 := findNow_scalar hu hd hx (es := es) (i := i + 1) fun y hy => h y (List.mem_cons_of_mem _ hy)
    have he : j.fits e.key := by
      rcases h e List.mem_cons_self with ⟨k', e1, h3, _⟩ | ⟨xs, fs, _, hu', _⟩
      · cases e1; exact h3
      · rw [hu] at hu'; cases hu'; cases j <;> simp only at hd <;> cases hd
    unfold Instr.findNow findE
    have hs : Instr.sameNow d x e.key = some (eqCs x.cells.toList e.key.cells.toList) := by
      cases j with
      | int q =>
        simp only at hd; subst hd
        obtain ⟨a, ha⟩ := hx; obtain ⟨b, hb⟩ := he
        subst ha; rw [hb]
        simp only [Instr.sameNow, if_true, Value.cells, eqCs, eqC, Bool.and_true]
        rfl
      | str =>
        simp only at hd; subst hd
        obtain ⟨a, ha⟩ := hx; obtain ⟨b, hb⟩ := he
        subst ha; rw [hb]
        simp only [Instr.sameNow, Value.cells, eqCs, eqC, Bool.and_true]
        rw [beq_toListBytes, bytesEq]
      | bool =>
        simp only at hd; subst hd
        obtain ⟨a, ha⟩ := hx; obtain ⟨b, hb⟩ := he
        subst ha; rw [hb]
        simp [Instr.sameNow, Value.cells, eqCs, eqC]
    rw [hs]
    cases eqCs x.cells.toList e.key.cells.toList with
    | true => rfl
    | false => exact h2

theorem findKey_fit {P : Program} {k : TypeId} {ks : List LK} {x : Value} {w : World} (hk : flatT P 100 k = some ks) (hx : FitT P k ks x) {es : List MapEntry} (h : ∀ e ∈ es, FitT P k ks e.key) :
    (Instr.findKey k x es).run P w = .ok (findE x.cells.toList es 0) w := by
  unfold Instr.findKey
  rcases flatT_cases hk with ⟨j, rfl, dd, hu, hd⟩ | ⟨e, fs, _, hu, _, _⟩
  · have hj : j.fits x := by
      rcases hx with ⟨k', e1, h3, _⟩ | ⟨xs, fs, _, hu', _⟩
      · cases e1; exact h3
      · rw [hu] at hu'; cases hu'; cases j <;> simp only at hd <;> cases hd
    simp only [Sem.run_bind, run_underlying hu, Result.andThen_ok, findNow_scalar hu hd hj h]
    rfl
  · simp only [Sem.run_bind, run_underlying hu, Result.andThen_ok]
    cases es with
    | nil => simp [Instr.findNow, findE]
    | cons e1 es =>
      have : Instr.findNow (.struct fs) x (e1 :: es) 0 = none := by
        unfold Instr.findNow Instr.sameNow
        rfl
      rw [this]
      exact findAsking_fit hk hx h

theorem checkKey_fit {P : Program} : ∀ {d D : Nat} {em : Bool} {t : TypeId} {ks : List LK} {x : Value} {w : World}, d ≤ D → flatT P d t = some ks → FitT P t ks x → (Instr.checkKey em D t x).run P w = .ok () w := by
  intro d
  induction d with
  | zero => intro D em t ks x w _ h; simp [flatT] at h
  | succ d ih =>
    intro D em t ks x w hle h hx
    obtain ⟨D', rfl⟩ : ∃ D', D = D' + 1 := ⟨D - 1, by omega⟩
    rcases hx with ⟨k, rfl, hkx, dd, hu, hk⟩ | ⟨xs, fs, rfl, hu, hxs⟩
    · unfold Instr.checkKey
      simp only [Sem.run_bind, run_underlying hu, Result.andThen_ok]
      cases k <;> simp only at hk <;> subst hk <;> rfl
    · rcases flatT_cases h with ⟨k, rfl, dd, hu2, hk⟩ | ⟨e, fs2, he, hu2, hst, hfl⟩
      · rw [hu] at hu2; cases hu2; cases k <;> simp only at hk <;> cases hk
      · cases he
        rw [hu] at hu2; cases hu2
        unfold Instr.checkKey
        simp only [Sem.run_bind, run_underlying hu, Result.andThen_ok]
        rw [← Array.forIn_toList]
        have parts : ∀ {l : List Field} {off : Nat} {r : List LK}, flatF P (flatT P d) off l = some r → LKs r (xs.toList.drop off) → ∀ f ∈ l, (do Instr.checkKey em D' f.type (← part f.type xs f.offset) : Go.Sem Unit).run P w = .ok () w := by
          intro l
          induction l with
          | nil => intro off r _ _ f hf; cases hf
          | cons g l ihl =>
            intro off r hr hx f hf
            unfold flatF at hr
            split at hr
            · rename_i k1 i hb hk hi
              simp only [Bool.and_eq_true, bne_iff_ne, ne_eq] at hb
              have hoff := Nat.eq_of_beq_eq_true hb.1
              subst hoff
              split at hr
              · rename_i r2 hsz hr2
                cases hr
                have hsz := Nat.eq_of_beq_eq_true hsz
                obtain ⟨x1, x2⟩ := LKs.append hx
                rcases List.mem_cons.1 hf with rfl | hf
                · obtain ⟨v, p1, p2, p3⟩ := part_fit (w := w) hk hi hsz x1
                  simp only [Sem.run_bind, p1, Result.andThen_ok]
                  exact ih (by omega) hk p2
                · rw [List.drop_drop] at x2
                  exact ihl hr2 x2 f hf
              · cases hr
            · cases hr
        have hp := parts hfl (by simpa using hxs)
        have := forIn_check (P := P) (w := w) (c := fun f : Field => f.name ≠ "_") (g := fun f => do
          let y ← part f.type xs f.offset
          Instr.checkKey em D' f.type y
          pure (ForInStep.yield PUnit.unit)) (l := fs.toList) (by
            intro f hf
            have h1 := hp f hf
            simp only [Sem.run_bind] at h1 ⊢
            cases hq : (part f.type xs f.offset).run P w with
            | ok a w1 =>
              rw [hq] at h1
              simp only [Result.andThen_ok] at h1 ⊢
              rw [h1]; rfl
            | halt r w1 => rw [hq] at h1; simp [Result.andThen] at h1)
        rw [this]
        rfl

end
end Go.SX
