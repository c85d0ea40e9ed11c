/- SX, part HM: maps. -/
import Derived.Test.YthmiaipampdegaaGreatDoorSXH
import Derived.Test.YthmiaipampdegaaGreatDoorSXGS
import Derived.Maps.RangeRun
import Derived.MapKept
namespace Go.SX
noncomputable section

/-- Something new. -/
theorem Turn.newR {n : Nat} {R : Heap} {env : Env} {F : Foot} {w : World} {o : Obj} {r : Res} {v : Value} (hn : env n = none)
    (hs : r.sat (env.set n v) v (fun b => b = w.heap.size) (w.alloc o)) : Turn n (n + 1) R [] [(n, r)] env F w (env.set n v) (fun _ b => b = w.heap.size) (w.alloc o) := by
  refine ⟨Env.le_set hn, ?_, ⟨?_, ?_⟩, ?_, frame_alloc⟩
  · intro h hh; unfold Env.set; rw [if_neg (by omega)]
  · intro h r' hl
    obtain ⟨rfl, rfl⟩ := look_one hl
    exact ⟨_, Env.set_same _ _ _, hs⟩
  · intro h r1 h' r2 hl hl' hne
    obtain ⟨rfl, rfl⟩ := look_one hl
    obtain ⟨rfl, rfl⟩ := look_one hl'
    exact absurd rfl hne
  · intro h r' b hl hb
    exact .inr (.inr (Nat.le_of_eq hb.symm))

theorem alloc_at (w : World) (o : Obj) : (w.alloc o).heap[w.heap.size]? = some o := by
  show (w.heap.push o)[w.heap.size]? = _
  simp

theorem triple_makeMap {P : Program} {o : Oper} {fr : Fr} {n t : Nat} (ho : o.op = .makeMap t none) : Triple P o fr [] [] n (n + 1) (.hd n) [(n, .map [])] := by
  intro env F a w next Q hneed hsat hfresh hk
  have hn' := hfresh n (Nat.le_refl _) (by omega)
  unfold Oper.wp
  rw [show (execOp a.eval o).run P w = .ok (.value (.map (some w.heap.size))) (w.alloc (.map #[] 0)) by simp [execOp, ho, Instr.makeMap]]
  refine hk _ _ _ _ (Turn.newR (r := .map []) (v := .map (some w.heap.size)) hn' ?_) ?_
  · exact ⟨_, #[], 0, rfl, fun _ => Iff.rfl, alloc_at _ _, rfl, ⟨by simp, by simp⟩⟩
  · simp only [Den]
    exact ⟨Env.set_same _ _ _, trivial⟩

def keyL : AV → List AV
  | .agg m => m
  | u => [u]

/-- The first entry at a key, as the walk knows it. -/
def findA (k : List AV) : List (AV × AV) → Option (Nat × AV)
  | [] => none
  | (k', v) :: l => match eqAs k (keyL k') with
    | true => some (0, v)
    | false => match findA k l with
      | some (i, u) => some (i + 1, u)
      | none => none

def keyFit (T : Tab) (k : Nat) (fl : List LK) (v : AV) : Bool :=
  match kindOf T k, v with
  | .struct _ _, .agg l => fitAs fl l
  | .int j, .int i _ => IntKind.same j i
  | .str, .str _ => true
  | .bool, .bool _ => true
  | _, _ => false

theorem keyFit_ok {P : Program} {T : Tab} (hT : TabOK P T) {k : Nat} {fl : List LK} {v : AV} {env : Env} {x : Value} (hfl : flatT P 100 k = some fl) (h : keyFit T k fl v = true) (hd : Den env v x) :
    FitT P k fl x ∧ Dens env (keyL v) x.cells.toList ∧ fitAs fl (keyL v) = true := by
  unfold keyFit at h
  split at h
  · rename_i fs fl' l hk
    obtain ⟨d, h1, h2⟩ := kindOf_ok hT hk (by simp)
    simp only [KindOK] at h2
    obtain ⟨fields, rfl, _⟩ := h2
    simp only [Den] at hd
    obtain ⟨xs, rfl, hds⟩ := hd
    exact ⟨.inr ⟨xs, fields, rfl, h1, fitAs_ok h hds⟩, by simpa [keyL, Value.cells] using hds, h⟩
  · rename_i j i n hk
    obtain ⟨d, h1, h2⟩ := kindOf_ok hT hk (by simp)
    simp only [KindOK] at h2; subst h2
    have hji := IntKind.same_eq h
    subst hji
    have : fl = [.int j] := by
      unfold flatT at hfl; rw [h1] at hfl; simpa using hfl.symm
    subst this
    simp only [Den] at hd; subst hd
    refine ⟨.inl ⟨.int j, rfl, ⟨n, rfl⟩, _, h1, rfl⟩, ?_, ?_⟩
    · simp [keyL, Value.cells, Dens, Den]
    · simp [keyL, fitAs, fitA, h]
  · rename_i s0 hk
    obtain ⟨d, h1, h2⟩ := kindOf_ok hT hk (by simp)
    simp only [KindOK] at h2; subst h2
    have : fl = [.str] := by
      unfold flatT at hfl; rw [h1] at hfl; simpa using hfl.symm
    subst this
    simp only [Den] at hd; subst hd
    exact ⟨.inl ⟨.str, rfl, ⟨s0, rfl⟩, _, h1, rfl⟩, by simp [keyL, Value.cells, Dens, Den], rfl⟩
  · rename_i b hk
    obtain ⟨d, h1, h2⟩ := kindOf_ok hT hk (by simp)
    simp only [KindOK] at h2; subst h2
    have : fl = [.bool] := by
      unfold flatT at hfl; rw [h1] at hfl; simpa using hfl.symm
    subst this
    simp only [Den] at hd; subst hd
    exact ⟨.inl ⟨.bool, rfl, ⟨b, rfl⟩, _, h1, rfl⟩, by simp [keyL, Value.cells, Dens, Den], rfl⟩
  · cases h

def allFit (T : Tab) (k : Nat) (fl : List LK) (L : List (AV × AV)) : Bool := L.all fun p => keyFit T k fl p.1

theorem allFit_ok {P : Program} {T : Tab} (hT : TabOK P T) {k : Nat} {fl : List LK} {env : Env} (hfl : flatT P 100 k = some fl) : ∀ {L : List (AV × AV)} {es : List MapEntry}, allFit T k fl L = true → DenM env L es → ∀ e ∈ es, FitT P k fl e.key
  | [], es, _, hd, e, he => by simp only [DenM] at hd; subst hd; cases he
  | (k', v) :: L, es, h, hd, e, he => by
    simp only [allFit, List.all_cons, Bool.and_eq_true] at h
    simp only [DenM] at hd
    obtain ⟨e1, t, rfl, h1, h2, h3⟩ := hd
    rcases List.mem_cons.1 he with rfl | he
    · exact (keyFit_ok hT hfl h.1 h1).1
    · exact allFit_ok hT hfl h.2 h3 e he

/-- What is found. -/
theorem find_ok {P : Program} {T : Tab} (hT : TabOK P T) {k : Nat} {fl : List LK} {env : Env} {kv : AV} {x : Value} (hfl : flatT P 100 k = some fl) (hk : keyFit T k fl kv = true) (hx : Den env kv x) :
    ∀ {L : List (AV × AV)} {es : List MapEntry} (i : Nat), allFit T k fl L = true → DenM env L es →
      match findA (keyL kv) L with
      | none => findE x.cells.toList es i = none
      | some (j, u) => ∃ y, findE x.cells.toList es i = some (i + j, y) ∧ Den env u y ∧ j < es.length
  | [], es, i, _, hd => by simp only [DenM] at hd; subst hd; rfl
  | (k', v) :: L, es, i, h, hd => by
    simp only [allFit, List.all_cons, Bool.and_eq_true] at h
    simp only [DenM] at hd
    obtain ⟨e1, t, rfl, h1, h2, h3⟩ := hd
    obtain ⟨_, a1, a2⟩ := keyFit_ok hT hfl hk hx
    obtain ⟨_, b1, b2⟩ := keyFit_ok hT hfl h.1 h1
    have heq := eqAs_ok a2 b2 a1 b1
    unfold findA findE
    rw [heq]
    cases hq : eqAs (keyL kv) (keyL k') with
    | true => exact ⟨e1.val, rfl, h2, by simp⟩
    | false =>
      simp only
      have ih := find_ok hT hfl hk hx (L := L) (es := t) (i + 1) h.2 h3
      cases hf : findA (keyL kv) L with
      | none => rw [hf] at ih; exact ih
      | some p =>
        obtain ⟨j, u⟩ := p
        rw [hf] at ih
        obtain ⟨y, g1, g2, g3⟩ := ih
        exact ⟨y, by rw [g1]; congr 2; omega, g2, by simp; omega⟩

/-- A type's zero. -/
def zeroA (r : TRow) : Option AV :=
  match r.agg, r.zero with
  | true, z => some (.agg z)
  | false, [z] => some z
  | _, _ => none

theorem zeroA_ok {P : Program} {T : Tab} (hT : TabOK P T) {t : Nat} {r : TRow} {z : AV} (hr : T t = some r) (hz : zeroA r = some z) (w : World) : ∃ zv, (zeroValue t).run P w = .ok zv w ∧ ∀ env, Den env z zv := by
  obtain ⟨_, ⟨zv, h2, h3⟩, _⟩ := row_info hT hr w
  refine ⟨zv, h2, fun env => ?_⟩
  unfold zeroA at hz
  split at hz
  · rename_i hag; cases hz; exact zero_agg ⟨(h3 env).1, by rw [(h3 env).2, hag]⟩
  · rename_i z1 hag hzz; cases hz; exact zero_one ⟨by rw [← hzz]; exact (h3 env).1, by rw [(h3 env).2, hag]⟩
  · cases hz

def okA' (ok : Bool) (v : AV) (b : Bool) : AV := match ok with | true => .tup [v, .bool b] | false => v

theorem okA'_den {env : Env} {ok b : Bool} {v : AV} {x : Value} (h : Den env v x) : Den env (okA' ok v b) (if ok then .tuple #[x, .bool b] else x) := by
  cases ok with
  | true => simp only [okA', if_true, Den]; exact ⟨_, rfl, by simp [Dens, Den, h]⟩
  | false => simpa [okA'] using h

theorem run_getObj_at {P : Program} {w : World} {r : Nat} {es : Array MapEntry} {clock : Nat} (hb : w.heap[r]? = some (.map es clock)) : (getObj r).run P w = .ok (.map es clock) w := MapKept.run_getObj_map hb

/-- m[k]. -/
theorem triple_lookup {P : Program} {T : Tab} (hT : TabOK P T) {o : Oper} {fr : Fr} {n h t kt et : Nat} {fl : List LK} {x k : Operand} {ok : Bool} {kv z : AV} {L : List (AV × AV)} {r : TRow}
    (ho : o.op = .lookup t x k ok) (hm : kindOf T t = .map kt et fl) (hx : ev fr x = some (.hd h)) (hk : ev fr k = some kv) (hkf : keyFit T kt fl kv = true) (hL : allFit T kt fl L = true) (hr : T et = some r) (hz : zeroA r = some z) :
    Triple P o fr [(h, .map L)] [] n n (match findA (keyL kv) L with | some (_, u) => okA' ok u true | none => okA' ok z false) [] := by
  intro env F a w next Q hneed hsat hfresh hkk
  have d1 := ev_den hneed (by rw [ho]; simp [Op.operands]) hx
  have d2 := ev_den hneed (by rw [ho]; simp [Op.operands]) hk
  simp only [Den] at d1
  obtain ⟨e1, _⟩ := d1
  obtain ⟨v1, hv1, b, xs, clock, q1, q2, q3, q4, q5⟩ := hsat.sat (h := h) (r := .map L) (by simp [lookN, lookC, Nat.beq_refl])
  rw [e1] at hv1; cases hv1
  obtain ⟨d, hu, hd⟩ := kindOf_ok hT hm (by simp)
  obtain ⟨rfl, hfl⟩ := hd
  obtain ⟨f1, f2, f3⟩ := keyFit_ok hT hfl hkf d2
  have hes := allFit_ok hT hfl hL q4
  have hck := checkKey_fit (w := w) (D := 10000) (em := xs.isEmpty) (by omega) hfl f1
  have hfk := findKey_fit (w := w) hfl f1 hes
  obtain ⟨zv, z1, z2⟩ := zeroA_ok hT hr hz w
  have hfind := find_ok hT hfl hkf d2 0 hL q4
  unfold Oper.wp
  cases hq : findA (keyL kv) L with
  | none =>
    rw [hq] at hfind
    rw [hfind] at hfk
    have hrun : (execOp a.eval o).run P w = .ok (.value (if ok then .tuple #[zv, .bool false] else zv)) w := by
      simp only [execOp, ho, Instr.lookup, q1, Sem.run_bind, run_underlying hu, Result.andThen_ok, run_getObj_at q3, hck, hfk, z1, Sem.run_pure]
    rw [hrun]
    exact hkk env F _ w (Turn.refl _ _ _ _ _) (by rw [hq]; exact okA'_den (z2 env))
  | some p =>
    obtain ⟨j, u⟩ := p
    rw [hq] at hfind
    obtain ⟨y, g1, g2, g3⟩ := hfind
    rw [g1] at hfk
    have hrun : (execOp a.eval o).run P w = .ok (.value (if ok then .tuple #[y, .bool true] else y)) w := by
      simp only [execOp, ho, Instr.lookup, q1, Sem.run_bind, run_underlying hu, Result.andThen_ok, run_getObj_at q3, hck, hfk, Sem.run_pure]
    rw [hrun]
    exact hkk env F _ w (Turn.refl _ _ _ _ _) (by rw [hq]; exact okA'_den g2)

/-- An object, written. -/
theorem Turn.put {n h b : Nat} {R : Heap} {env : Env} {F : Foot} {w : World} {ob : Obj} {r r' : Res} {v : Value} (hF : ∀ k, F h k ↔ k = b) (hb : b < w.heap.size) (hv : env h = some v) (hex : r.excl = true)
    (hs : r'.sat env v (fun k => k = b) { w with heap := w.heap.setIfInBounds b ob }) : Turn n n R [(h, r)] [(h, r')] env F w env (fun _ k => k = b) { w with heap := w.heap.setIfInBounds b ob } := by
  have _ := hb
  refine ⟨Env.le.refl _, fun _ _ => rfl, ⟨?_, ?_⟩, ?_, ⟨rfl, rfl, rfl, by simp, ?_⟩⟩
  · intro h' r1 hl
    obtain ⟨rfl, rfl⟩ := look_one hl
    exact ⟨v, hv, hs⟩
  · intro h1 r1 h2 r2 hl hl' hne
    obtain ⟨rfl, rfl⟩ := look_one hl
    obtain ⟨rfl, rfl⟩ := look_one hl'
    exact absurd rfl hne
  · intro h' r1 k hl hk
    obtain ⟨rfl, rfl⟩ := look_one hl
    exact .inl ⟨h', r, by simp [lookN, lookC, Nat.beq_refl], (hF k).2 hk, fun _ => hex⟩
  · intro k _ hk
    have hne : b ≠ k := by
      rintro rfl
      exact hk ⟨h, r, by simp [lookN, lookC, Nat.beq_refl], hex, (hF b).2 rfl⟩
    show (w.heap.setIfInBounds b ob)[k]? = _
    rw [Array.getElem?_setIfInBounds_ne hne]

theorem put_at {w : World} {b : Nat} {o ob : Obj} (hb : w.heap[b]? = some o) : ({ w with heap := w.heap.setIfInBounds b ob } : World).heap[b]? = some ob := by
  have := getElem?_lt hb
  show (w.heap.setIfInBounds b ob)[b]? = _
  simp [this]

theorem eqC_eq {k : LK} {x y : Value} (h1 : k.fits x) (h2 : k.fits y) (h : eqC x y = true) : x = y := by
  cases k <;> obtain ⟨a, rfl⟩ := h1 <;> obtain ⟨b, rfl⟩ := h2 <;> simp [eqC] at h <;> rw [h]

theorem eqCs_eq : ∀ {ks : List LK} {xs ys : List Value}, LKs ks xs → LKs ks ys → eqCs xs ys = true → xs = ys
  | [], _, _, h1, h2, _ => by simp only [LKs] at h1 h2; rw [h1, h2]
  | k :: ks, _, _, ⟨x, t, e1, f1, g1⟩, ⟨y, t', e2, f2, g2⟩, h => by
    subst e1; subst e2
    simp only [eqCs, Bool.and_eq_true] at h
    rw [eqC_eq f1 f2 h.1, eqCs_eq g1 g2 h.2]

theorem fit_eq {P : Program} {t : TypeId} {ks : List LK} {x y : Value} (h1 : FitT P t ks x) (h2 : FitT P t ks y) (h : eqCs x.cells.toList y.cells.toList = true) : x = y := by
  have one : ∀ {k : LK} {z : Value}, k.fits z → z.cells.toList = [z] := by
    intro k z hz
    cases k <;> obtain ⟨a, rfl⟩ := hz <;> simp [Value.cells]
  rcases h1 with ⟨k, rfl, f1, d, u1, hk⟩ | ⟨xs, fs, rfl, u1, l1⟩ <;> rcases h2 with ⟨k', e, f2, d', u2, hk'⟩ | ⟨ys, fs', rfl, u2, l2⟩
  · cases e
    rw [one f1, one f2] at h
    simp only [eqCs, Bool.and_true] at h
    exact eqC_eq f1 f2 h
  · rw [u1] at u2; cases u2; cases k <;> simp only at hk <;> cases hk
  · rw [u1] at u2; cases u2; cases k' <;> simp only at hk' <;> cases hk'
  · simp only [Value.cells] at h
    have := eqCs_eq l1 l2 h
    rw [Array.toList_inj.1 this]

theorem sameBits_self {P : Program} {t : TypeId} {ks : List LK} {x : Value} (h : FitT P t ks x) : Instr.sameBits 10000 x x = true := by
  have one : ∀ {k : LK} {z : Value} (n : Nat), k.fits z → Instr.sameBits n z z = true := by
    intro k z n hz
    cases k <;> obtain ⟨a, rfl⟩ := hz <;> cases n <;> simp [Instr.sameBits, beq_toListBytes]
  rcases h with ⟨k, rfl, f1, _⟩ | ⟨xs, fs, rfl, u1, l1⟩
  · exact one _ f1
  · unfold Instr.sameBits
    simp only [beq_self_eq_true, Bool.true_and]
    have key : ∀ {l : List Value} {ks : List LK}, LKs ks l → ((l.zip l).all fun (p : Value × Value) => Instr.sameBits 9999 p.1 p.2) = true := by
      intro l
      induction l with
      | nil => intro ks _; rfl
      | cons v l ih =>
        intro ks hl
        cases ks with
        | nil => simp [LKs] at hl
        | cons k ks =>
          obtain ⟨v', t', e, f, g⟩ := hl
          cases e
          simp only [List.zip_cons_cons, List.all_cons, Bool.and_eq_true]
          exact ⟨one _ f, ih g⟩
    exact key l1

theorem findE_at {xs : List Value} : ∀ {es : List MapEntry} {i j : Nat} {y : Value}, findE xs es i = some (j, y) → i ≤ j ∧ ∃ e, es[j - i]? = some e ∧ e.val = y ∧ eqCs xs e.key.cells.toList = true
  | [], _, _, _, h => by simp [findE] at h
  | e :: es, i, j, y, h => by
    unfold findE at h
    split at h
    · rename_i hq
      simp only [Option.some.injEq, Prod.mk.injEq] at h
      obtain ⟨rfl, rfl⟩ := h
      exact ⟨Nat.le_refl _, e, by simp, rfl, hq⟩
    · obtain ⟨h1, e', h2, h3, h4⟩ := findE_at h
      refine ⟨by omega, e', ?_, h3, h4⟩
      rw [show j - i = (j - (i + 1)) + 1 by omega]
      simpa using h2

theorem denM_set {env : Env} {kv v : AV} {f : MapEntry → MapEntry} : ∀ {L : List (AV × AV)} {es : List MapEntry} {j : Nat}, DenM env L es → (∀ e, es[j]? = some e → Den env kv (f e).key ∧ Den env v (f e).val) → j < es.length →
    DenM env (L.set j (kv, v)) (es.modify j f)
  | [], es, j, hd, _, hj => by simp only [DenM] at hd; subst hd; simp at hj
  | (k', v') :: L, es, j, hd, hf, hj => by
    simp only [DenM] at hd
    obtain ⟨e1, t, rfl, h1, h2, h3⟩ := hd
    cases j with
    | zero =>
      obtain ⟨g1, g2⟩ := hf e1 rfl
      exact ⟨f e1, t, by simp, g1, g2, h3⟩
    | succ j =>
      exact ⟨e1, t.modify j f, by simp, h1, h2, denM_set h3 (fun e he => hf e (by simpa using he)) (by simpa using hj)⟩

theorem denM_append {env : Env} : ∀ {L M : List (AV × AV)} {es fs : List MapEntry}, DenM env L es → DenM env M fs → DenM env (L ++ M) (es ++ fs)
  | [], M, es, fs, h, k => by simp only [DenM] at h; subst h; simpa using k
  | (k', v') :: L, M, es, fs, h, k => by
    simp only [DenM] at h
    obtain ⟨e1, t, rfl, h1, h2, h3⟩ := h
    exact ⟨e1, t ++ fs, rfl, h1, h2, denM_append h3 k⟩

theorem born_modify {f : MapEntry → MapEntry} (hf : ∀ e, (f e).born = e.born) : ∀ (l : List MapEntry) (j : Nat), (l.modify j f).map (·.born) = l.map (·.born)
  | [], j => by simp
  | e :: l, 0 => by simp [hf]
  | e :: l, j + 1 => by simp [born_modify hf l j]

theorem Born.of_map {l m : List MapEntry} {c : Nat} (h : Born l c) (e : m.map (·.born) = l.map (·.born)) : Born m c := by
  constructor
  · intro x hx
    have : x.born ∈ m.map (·.born) := List.mem_map.2 ⟨x, hx, rfl⟩
    rw [e, List.mem_map] at this
    obtain ⟨y, hy, hyx⟩ := this
    rw [← hyx]; exact h.lt y hy
  · have h1 : (l.map (·.born)).Pairwise (· ≠ ·) := List.pairwise_map.2 h.ne
    rw [← e] at h1
    exact List.pairwise_map.1 h1

theorem Born.push {l : List MapEntry} {c : Nat} {e : MapEntry} (h : Born l c) (he : e.born = c) : Born (l ++ [e]) (c + 1) := by
  constructor
  · intro x hx
    rcases List.mem_append.1 hx with hx | hx
    · have := h.lt x hx; omega
    · simp at hx; subst hx; omega
  · rw [List.pairwise_append]
    refine ⟨h.ne, by simp, ?_⟩
    intro x hx y hy
    simp at hy; subst hy
    have := h.lt x hx; omega

def updA (L : List (AV × AV)) (kv v : AV) : List (AV × AV) :=
  match findA (keyL kv) L with
  | some (j, _) => L.set j (kv, v)
  | none => L ++ [(kv, v)]

/-- m[k] = v. -/
theorem triple_update {P : Program} {T : Tab} (hT : TabOK P T) {o : Oper} {fr : Fr} {n h t kt et : Nat} {fl : List LK} {x k y : Operand} {kv v : AV} {L : List (AV × AV)}
    (ho : o.op = .mapUpdate t x k y) (hm : kindOf T t = .map kt et fl) (hx : ev fr x = some (.hd h)) (hk : ev fr k = some kv) (hy : ev fr y = some v) (hkf : keyFit T kt fl kv = true) (hL : allFit T kt fl L = true) :
    Triple P o fr [] [(h, .map L)] n n (.raw undef) [(h, .map (updA L kv v))] := by
  intro env F a w next Q hneed hsat hfresh hkk
  have d1 := ev_den hneed (by rw [ho]; simp [Op.operands]) hx
  have d2 := ev_den hneed (by rw [ho]; simp [Op.operands]) hk
  have d3 := ev_den hneed (by rw [ho]; simp [Op.operands]) hy
  simp only [Den] at d1
  obtain ⟨e1, _⟩ := d1
  obtain ⟨v1, hv1, b, xs, clock, q1, q2, q3, q4, q5⟩ := hsat.sat (h := h) (r := .map L) (by simp [lookN, lookC, Nat.beq_refl])
  rw [e1] at hv1; cases hv1
  obtain ⟨d, hu, hd⟩ := kindOf_ok hT hm (by simp)
  obtain ⟨rfl, hfl⟩ := hd
  obtain ⟨f1, f2, f3⟩ := keyFit_ok hT hfl hkf d2
  have hes := allFit_ok hT hfl hL q4
  have hck := checkKey_fit (w := w) (D := 10000) (em := false) (by omega) hfl f1
  have hfk := findKey_fit (w := w) hfl f1 hes
  have hfind := find_ok hT hfl hkf d2 0 hL q4
  have hset : ∀ ob, (setObj b ob).run P w = .ok () { w with heap := w.heap.setIfInBounds b ob } := fun ob => MapKept.run_setObj_map ob q3
  unfold Oper.wp
  unfold updA at hkk
  cases hq : findA (keyL kv) L with
  | none =>
    rw [hq] at hfind hkk
    rw [hfind] at hfk
    have hrun : (execOp a.eval o).run P w = .ok .skip { w with heap := w.heap.setIfInBounds b (.map (xs.push { key := a.eval k, val := a.eval y, born := clock }) (clock + 1)) } := by
      simp only [execOp, ho, Instr.mapUpdate, q1, Sem.run_bind, run_underlying hu, Result.andThen_ok, run_getObj_at q3, hck, hfk, hset, Sem.run_pure]
    rw [hrun]
    refine hkk env _ undef _ (Turn.put q2 (getElem?_lt q3) (by rw [e1, q1]) rfl ⟨b, _, _, rfl, fun _ => Iff.rfl, put_at q3, ?_, ?_⟩) (by simp only [Den])
    · rw [Array.toList_push]; exact denM_append q4 ⟨_, [], rfl, d2, d3, rfl⟩
    · rw [Array.toList_push]; exact q5.push rfl
  | some p =>
    obtain ⟨j, u⟩ := p
    rw [hq] at hfind hkk
    obtain ⟨z, g1, g2, g3⟩ := hfind
    rw [Nat.zero_add] at g1
    rw [g1] at hfk
    obtain ⟨_, e, r1, r2, r3⟩ := findE_at g1
    rw [Nat.sub_zero] at r1
    have hje : xs[j]? = some e := by simpa using r1
    have hkey : a.eval k = e.key := fit_eq f1 (hes e (List.mem_of_getElem? r1)) r3
    have hsame : (Instr.keyThatStays e.key (a.eval k)).run P w = .ok (a.eval k) w := by
      unfold Instr.keyThatStays
      rw [← hkey, sameBits_self f1]
      rfl
    have hrun : (execOp a.eval o).run P w = .ok .skip { w with heap := w.heap.setIfInBounds b (.map (xs.modify j fun e => { e with key := a.eval k, val := a.eval y }) clock) } := by
      simp only [execOp, ho, Instr.mapUpdate, q1, Sem.run_bind, run_underlying hu, Result.andThen_ok, run_getObj_at q3, hck, hfk, hje, Option.map_some, Option.getD_some, hsame, hset, Sem.run_pure]
    rw [hrun]
    refine hkk env _ undef _ (Turn.put q2 (getElem?_lt q3) (by rw [e1, q1]) rfl ⟨b, _, _, rfl, fun _ => Iff.rfl, put_at q3, ?_, ?_⟩) (by simp only [Den])
    · rw [Array.toList_modify]; exact denM_set q4 (fun e _ => ⟨d2, d3⟩) g3
    · rw [Array.toList_modify]; exact q5.of_map (born_modify (f := fun e => { e with key := a.eval k, val := a.eval y }) (fun _ => rfl) _ _)

theorem denM_erase {env : Env} : ∀ {L : List (AV × AV)} {es : List MapEntry} {j : Nat}, DenM env L es → DenM env (L.eraseIdx j) (es.eraseIdx j)
  | [], es, j, hd => by simp only [DenM] at hd; subst hd; simp [DenM]
  | (k', v') :: L, es, j, hd => by
    simp only [DenM] at hd
    obtain ⟨e1, t, rfl, h1, h2, h3⟩ := hd
    cases j with
    | zero => simpa using h3
    | succ j => exact ⟨e1, t.eraseIdx j, by simp, h1, h2, denM_erase h3⟩

theorem Born.erase {l : List MapEntry} {c j : Nat} (h : Born l c) : Born (l.eraseIdx j) c :=
  ⟨fun e he => h.lt e ((List.eraseIdx_sublist l j).subset he), h.ne.sublist (List.eraseIdx_sublist l j)⟩

def delA (L : List (AV × AV)) (kv : AV) : List (AV × AV) :=
  match findA (keyL kv) L with
  | some (j, _) => L.eraseIdx j
  | none => L

/-- delete(m, k). -/
theorem triple_delete {P : Program} {T : Tab} (hT : TabOK P T) {o : Oper} {fr : Fr} {n h t t2 kt et : Nat} {fl : List LK} {x k : Operand} {kv : AV} {L : List (AV × AV)}
    (ho : o.op = .call { callee := .builtin .delete, args := #[x, k], argTypes := #[t, t2] }) (hm : kindOf T t = .map kt et fl) (hx : ev fr x = some (.hd h)) (hk : ev fr k = some kv) (hkf : keyFit T kt fl kv = true) (hL : allFit T kt fl L = true) :
    Triple P o fr [] [(h, .map L)] n n (.tup []) [(h, .map (delA L kv))] := by
  intro env F a w next Q hneed hsat hfresh hkk
  have d1 := ev_den hneed (by rw [ho]; simp [Op.operands, Call.operands]) hx
  have d2 := ev_den hneed (by rw [ho]; simp [Op.operands, Call.operands]) hk
  simp only [Den] at d1
  obtain ⟨e1, _⟩ := d1
  obtain ⟨v1, hv1, b, xs, clock, q1, q2, q3, q4, q5⟩ := hsat.sat (h := h) (r := .map L) (by simp [lookN, lookC, Nat.beq_refl])
  rw [e1] at hv1; cases hv1
  obtain ⟨d, hu, hd⟩ := kindOf_ok hT hm (by simp)
  obtain ⟨rfl, hfl⟩ := hd
  obtain ⟨f1, f2, f3⟩ := keyFit_ok hT hfl hkf d2
  have hes := allFit_ok hT hfl hL q4
  have hck := checkKey_fit (w := w) (D := 10000) (em := xs.isEmpty) (by omega) hfl f1
  have hfk := findKey_fit (w := w) hfl f1 hes
  have hfind := find_ok hT hfl hkf d2 0 hL q4
  have hset : ∀ ob, (setObj b ob).run P w = .ok () { w with heap := w.heap.setIfInBounds b ob } := fun ob => MapKept.run_setObj_map ob q3
  unfold Oper.wp
  unfold delA at hkk
  cases hq : findA (keyL kv) L with
  | none =>
    rw [hq] at hfind hkk
    rw [hfind] at hfk
    have hrun : (execOp a.eval o).run P w = .ok (.value (.tuple #[])) { w with heap := w.heap.setIfInBounds b (.map xs clock) } := by
      simp [execOp, ho, resolve, invoke, builtin, Builtin.delete_, q1, run_underlying hu, run_getObj_at q3, hck, hfk, hset]
    rw [hrun]
    exact hkk env _ _ _ (Turn.put q2 (getElem?_lt q3) (by rw [e1, q1]) rfl ⟨b, _, _, rfl, fun _ => Iff.rfl, put_at q3, q4, q5⟩) (by simp only [Den]; exact ⟨_, rfl, by simp [Dens]⟩)
  | some p =>
    obtain ⟨j, u⟩ := p
    rw [hq] at hfind hkk
    obtain ⟨z, g1, g2, g3⟩ := hfind
    rw [Nat.zero_add] at g1
    rw [g1] at hfk
    have hrun : (execOp a.eval o).run P w = .ok (.value (.tuple #[])) { w with heap := w.heap.setIfInBounds b (.map (xs.eraseIdxIfInBounds j) clock) } := by
      simp [execOp, ho, resolve, invoke, builtin, Builtin.delete_, q1, run_underlying hu, run_getObj_at q3, hck, hfk, hset]
    rw [hrun]
    have hto : (xs.eraseIdxIfInBounds j).toList = xs.toList.eraseIdx j := by simp
    exact hkk env _ _ _ (Turn.put q2 (getElem?_lt q3) (by rw [e1, q1]) rfl ⟨b, _, _, rfl, fun _ => Iff.rfl, put_at q3, by rw [hto]; exact denM_erase q4, by rw [hto]; exact q5.erase⟩) (by simp only [Den]; exact ⟨_, rfl, by simp [Dens]⟩)

theorem filter_none {l : List MapEntry} : (l.filter fun e => !(#[] : Array Nat).contains e.born) = l := by simp

/-- A range over a map begins. -/
theorem triple_range {P : Program} {T : Tab} (hT : TabOK P T) {o : Oper} {fr : Fr} {n h t kt et : Nat} {fl : List LK} {x : Operand} {L : List (AV × AV)}
    (ho : o.op = .range t x) (hm : kindOf T t = .map kt et fl) (hx : ev fr x = some (.hd h)) : Triple P o fr [] [(h, .map L)] n (n + 1) (.ptr n 0) [(h, .rmap L L [] n), (n, .iter h)] := by
  intro env F a w next Q hneed hsat hfresh hkk
  have hn' := hfresh n (Nat.le_refl _) (by omega)
  have d1 := ev_den hneed (by rw [ho]; simp [Op.operands]) hx
  simp only [Den] at d1
  obtain ⟨e1, _⟩ := d1
  obtain ⟨v1, hv1, b, xs, clock, q1, q2, q3, q4, q5⟩ := hsat.sat (h := h) (r := .map L) (by simp [lookN, lookC, Nat.beq_refl])
  rw [e1] at hv1; cases hv1
  obtain ⟨d, hu, hd⟩ := kindOf_ok hT hm (by simp)
  obtain ⟨rfl, hfl⟩ := hd
  have hne : h ≠ n := by rintro rfl; rw [e1] at hn'; cases hn'
  have hb := getElem?_lt q3
  unfold Oper.wp
  rw [show (execOp a.eval o).run P w = .ok (.value (.pointer (some ⟨w.heap.size, 0, none⟩))) (w.alloc (.mapIter (some b) clock #[] clock)) by
    simp [execOp, ho, Instr.range, q1, run_underlying hu, run_getObj_at q3]]
  have hle := Env.le_set (v := .pointer (some ⟨w.heap.size, 0, none⟩)) hn'
  have hold : (w.alloc (.mapIter (some b) clock #[] clock)).heap[b]? = some (.map xs clock) := by
    show (w.heap.push _)[b]? = _
    rw [Array.getElem?_push_lt hb, ← q3, Array.getElem?_eq_getElem hb]
  refine hkk (env.set n (.pointer (some ⟨w.heap.size, 0, none⟩))) (fun k c => k = h ∧ (c = b ∨ c = w.heap.size)) _ _ ⟨hle, ?_, ⟨?_, ?_⟩, ?_, frame_alloc⟩ ?_
  · intro k hk; unfold Env.set; rw [if_neg (by omega)]
  · intro k r hl
    rw [look_cons] at hl
    split at hl
    · rename_i e; subst e; cases hl
      refine ⟨_, hle _ _ e1, b, w.heap.size, xs, clock, clock, #[], q1, by omega, Env.set_same _ _ _, fun c => by simp, hold, alloc_at _ _, q4.mono hle, q5, ⟨Nat.le_refl _, fun e he => q5.lt e he⟩, ?_, ?_⟩
      · rw [filter_none]; exact q4.mono hle
      · rfl
    · obtain ⟨rfl, rfl⟩ := look_one hl
      refine ⟨_, Env.set_same _ _ _, ?_⟩
      rintro c ⟨e, _⟩; exact hne e.symm
  · intro k r k' r' hl hl' hkk' hex c
    rintro ⟨rfl, _⟩ ⟨e, _⟩; exact hkk' e.symm
  · intro k r c hl
    rintro ⟨rfl, hc⟩
    rcases hc with rfl | rfl
    · exact .inl ⟨k, .map L, by simp [lookN, lookC, Nat.beq_refl], (q2 c).2 rfl, fun _ => rfl⟩
    · exact .inr (.inr (Nat.le_refl _))
  · simp only [Den]
    exact ⟨w.heap.size, Env.set_same _ _ _, rfl⟩

/-- The range is over. -/
theorem triple_next_end {P : Program} {o : Oper} {fr : Fr} {n h it : Nat} {x : Operand} {L cur : List (AV × AV)}
    (ho : o.op = .next x false) (hx : ev fr x = some (.ptr it 0)) (hne : h ≠ it) : Triple P o fr [] [(h, .rmap L [] cur it), (it, .iter h)] n n (.tup [.bool false]) [(h, .map L), (it, .gone)] := by
  intro env F a w next Q hneed hsat hfresh hkk
  have d1 := ev_den hneed (by rw [ho]; simp [Op.operands]) hx
  simp only [Den] at d1
  obtain ⟨r0, e1, ex⟩ := d1
  obtain ⟨v1, hv1, b, r, xs, clock, since, seen, q1, q2, q3, q4, q5, q6, q7, q8, q9, q10, q11⟩ := hsat.sat (h := h) (r := .rmap L [] cur it) (by simp [lookN, lookC, Nat.beq_refl])
  rw [e1] at q3; cases q3
  have hl0 : (leftOf xs seen).size = 0 := by
    simp only [DenM] at q10
    have : (leftOf xs seen).toList = [] := by simpa [leftOf] using q10
    simpa using this
  have hrun : (execOp a.eval o).run P w = .ok (.value (.tuple #[.bool false])) w := by
    rcases run_next_at (P := P) w o.type r0 b since clock seen xs clock q6 q5 q9.2 q9.1 with ⟨_, h1⟩ | ⟨e, he, _⟩
    · simp [execOp, ho, ex, h1]
    · have : (leftOf xs seen).toList = [] := by simpa using hl0
      rw [this] at he; cases he
  unfold Oper.wp
  rw [hrun]
  refine hkk env (fun k c => k = h ∧ c = b) _ w ⟨Env.le.refl _, fun _ _ => rfl, ⟨?_, ?_⟩, ?_, FrameW.refl _ _⟩ (by simp only [Den]; exact ⟨_, rfl, by simp [Dens, Den]⟩)
  · intro k r1 hl
    rw [look_cons] at hl
    split at hl
    · rename_i e; subst e; cases hl
      exact ⟨v1, hv1, b, xs, clock, q1, fun c => by simp, q5, q7, q8⟩
    · obtain ⟨rfl, rfl⟩ := look_one hl
      exact ⟨_, e1, by rintro c ⟨e, _⟩; exact hne e.symm⟩
  · intro k r1 k' r2 hl hl' hkk' hex c
    rintro ⟨rfl, _⟩ ⟨e, _⟩; exact hkk' e.symm
  · intro k r1 c hl
    rintro ⟨rfl, rfl⟩
    exact .inl ⟨k, .rmap L [] cur it, by simp [lookN, lookC, Nat.beq_refl], (q4 c).2 (.inl rfl), fun _ => rfl⟩

theorem find_of {l : List MapEntry} {e : MapEntry} (h : l.Pairwise fun a b => a.born ≠ b.born) (he : e ∈ l) : l.find? (fun x => x.born == e.born) = some e := by
  induction l with
  | nil => cases he
  | cons a l ih =>
    rw [List.pairwise_cons] at h
    rw [List.find?_cons]
    rcases List.mem_cons.1 he with rfl | he
    · simp
    · have : (a.born == e.born) = false := by simpa using h.1 e he
      rw [this]; exact ih h.2 he

/-- The last entry of a range. -/
theorem triple_next_one {P : Program} {o : Oper} {fr : Fr} {n h it : Nat} {x : Operand} {L cur : List (AV × AV)} {kv v : AV}
    (ho : o.op = .next x false) (hx : ev fr x = some (.ptr it 0)) (hne : h ≠ it) :
    Triple P o fr [] [(h, .rmap L [(kv, v)] cur it), (it, .iter h)] n n (.tup [.bool true, kv, v]) [(h, .rmap L [] [(kv, v)] it), (it, .iter h)] := by
  intro env F a w next Q hneed hsat hfresh hkk
  have d1 := ev_den hneed (by rw [ho]; simp [Op.operands]) hx
  simp only [Den] at d1
  obtain ⟨r0, e1, ex⟩ := d1
  obtain ⟨v1, hv1, b, r, xs, clock, since, seen, q1, q2, q3, q4, q5, q6, q7, q8, q9, q10, q11⟩ := hsat.sat (h := h) (r := .rmap L [(kv, v)] cur it) (by simp [lookN, lookC, Nat.beq_refl])
  rw [e1] at q3; cases q3
  simp only [DenM] at q10
  obtain ⟨e0, t, g1, g2, g3, g4⟩ := q10
  subst g4
  have hleft : (leftOf xs seen).toList = [e0] := by simpa [leftOf] using g1
  rcases run_next_at (P := P) w o.type r0 b since clock seen xs clock q6 q5 q9.2 q9.1 with ⟨h0, _⟩ | ⟨e, he, w1, hw1, h1⟩
  · have : (leftOf xs seen).toList.length = 0 := by simpa using h0
    rw [hleft] at this; simp at this
  · rw [hleft] at he
    simp at he; subst he
    have hmem : e ∈ xs.toList := by
      have : e ∈ (xs.toList.filter fun e => !seen.contains e.born) := by rw [g1]; simp
      exact (List.mem_filter.1 this).1
    have hheap : w1.heap = w.heap := by rcases hw1 with rfl | rfl <;> rfl
    have hrun : (execOp a.eval o).run P w = .ok (.value (.tuple #[.bool true, e.key, e.val])) (ChangeMaps.setBlock w1 r0 (.mapIter (some b) since (seen.push e.born) clock)) := by
      simp [execOp, ho, ex, h1]
    unfold Oper.wp
    rw [hrun]
    have hat : (ChangeMaps.setBlock w1 r0 (.mapIter (some b) since (seen.push e.born) clock)).heap[r0]? = some (.mapIter (some b) since (seen.push e.born) clock) := by
      have := getElem?_lt q6
      show (w1.heap.setIfInBounds r0 _)[r0]? = _
      rw [hheap]; simp [this]
    have hoth : ∀ c, c ≠ r0 → (ChangeMaps.setBlock w1 r0 (.mapIter (some b) since (seen.push e.born) clock)).heap[c]? = w.heap[c]? := by
      intro c hc
      show (w1.heap.setIfInBounds r0 _)[c]? = _
      rw [Array.getElem?_setIfInBounds_ne (Ne.symm hc), hheap]
    refine hkk env (fun k c => k = h ∧ (c = b ∨ c = r0)) _ _ ⟨Env.le.refl _, fun _ _ => rfl, ⟨?_, ?_⟩, ?_, ?_⟩ (by simp only [Den, Dens]; exact ⟨_, rfl, _, _, rfl, rfl, _, _, rfl, g2, _, _, rfl, g3, rfl⟩)
    · intro k r1 hl
      rw [look_cons] at hl
      split at hl
      · rename_i ek; subst ek; cases hl
        refine ⟨v1, hv1, b, r0, xs, clock, since, seen.push e.born, q1, q2, e1, fun c => by simp, by rw [hoth b (Ne.symm q2)]; exact q5, hat, q7, q8, q9, ?_, ?_⟩
        · show _ = []
          rw [List.filter_eq_nil_iff]
          intro y hy
          by_cases hys : seen.contains y.born = true
          · simp at hys; simp [hys]
          · have : y ∈ (xs.toList.filter fun e => !seen.contains e.born) := List.mem_filter.2 ⟨hy, by simpa using hys⟩
            rw [g1] at this; simp at this; subst this; simp
        · have hf : xs.find? (fun x => x.born == e.born) = some e := by rw [← Array.find?_toList]; exact find_of q8.ne hmem
          unfold curOf
          simp only [Array.back?_push, hf]
          exact ⟨e, [], rfl, g2, g3, rfl⟩
      · obtain ⟨rfl, rfl⟩ := look_one hl
        exact ⟨_, e1, by rintro c ⟨ek, _⟩; exact hne ek.symm⟩
    · intro k r1 k' r2 hl hl' hkk' hex c
      rintro ⟨rfl, _⟩ ⟨ek, _⟩; exact hkk' ek.symm
    · intro k r1 c hl
      rintro ⟨rfl, hc⟩
      exact .inl ⟨k, .rmap L [(kv, v)] cur it, by simp [lookN, lookC, Nat.beq_refl], (q4 c).2 hc, fun _ => rfl⟩
    · refine ⟨?_, ?_, ?_, ?_, ?_⟩
      · rcases hw1 with rfl | rfl <;> rfl
      · rcases hw1 with rfl | rfl <;> rfl
      · rcases hw1 with rfl | rfl <;> rfl
      · show w.heap.size ≤ (w1.heap.setIfInBounds r0 _).size
        rw [hheap]; simp
      · intro c _ hc
        refine hoth c ?_
        rintro rfl
        exact hc ⟨h, _, by simp [lookN, lookC, Nat.beq_refl]; rfl, rfl, (q4 c).2 (.inr rfl)⟩

/-- The entry at which a range stands. -/
theorem triple_entry {P : Program} {o : Oper} {fr : Fr} {n h it : Nat} {x : Operand} {L todo : List (AV × AV)} {kv v : AV}
    (ho : o.op = .entry x) (hx : ev fr x = some (.ptr it 0)) : Triple P o fr [(h, .rmap L todo [(kv, v)] it)] [] n n (.tup [kv, v]) [] := by
  intro env F a w next Q hneed hsat hfresh hkk
  have d1 := ev_den hneed (by rw [ho]; simp [Op.operands]) hx
  simp only [Den] at d1
  obtain ⟨r0, e1, ex⟩ := d1
  obtain ⟨v1, hv1, b, r, xs, clock, since, seen, q1, q2, q3, q4, q5, q6, q7, q8, q9, q10, q11⟩ := hsat.sat (h := h) (r := .rmap L todo [(kv, v)] it) (by simp [lookN, lookC, Nat.beq_refl])
  rw [e1] at q3; cases q3
  simp only [DenM] at q11
  obtain ⟨e0, t, g1, g2, g3, g4⟩ := q11
  subst g4
  unfold curOf at g1
  have hrun : (execOp a.eval o).run P w = .ok (.value (.tuple #[e0.key, e0.val])) w := by
    cases hb : seen.back? with
    | none => rw [hb] at g1; cases g1
    | some st =>
      rw [hb] at g1
      simp only at g1
      cases hf : xs.find? (fun e => e.born == st) with
      | none => rw [hf] at g1; cases g1
      | some e2 =>
        rw [hf] at g1
        simp at g1; subst g1
        simp [execOp, ho, ex, Instr.entry, getObj, Sem.run, q6, q5, hb, hf, Result.andThen]
  unfold Oper.wp
  rw [hrun]
  exact hkk env F _ w (Turn.refl _ _ _ _ _) (by simp only [Den, Dens]; exact ⟨_, rfl, _, _, rfl, g2, _, _, rfl, g3, rfl⟩)

end
end Go.SX
