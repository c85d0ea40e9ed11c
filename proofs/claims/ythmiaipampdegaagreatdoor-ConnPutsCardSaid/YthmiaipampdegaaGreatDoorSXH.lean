/- SX, part H: the operations on memory. -/
import Derived.Test.YthmiaipampdegaaGreatDoorSXG
import Derived.Laws.Cells
namespace Go.SX
noncomputable section

theorem agree_alloc {F : Nat → Prop} {w : World} {o : Obj} (h : ∀ b, F b → b < w.heap.size) : Agree F w (w.alloc o) := by
  intro b hb
  show (w.heap.push o)[b]? = _
  rw [Array.getElem?_push, if_neg (by have := h b hb; omega)]

theorem frame_alloc {X : Nat → Prop} {w : World} {o : Obj} : FrameW X w (w.alloc o) :=
  ⟨rfl, rfl, rfl, by simp, fun b hb _ => by
    show (w.heap.push o)[b]? = _
    rw [Array.getElem?_push, if_neg (by omega)]⟩

/-- A new handle. -/
def Env.set (env : Env) (n : Nat) (v : Value) : Env := fun h => if h = n then some v else env h

theorem Env.le_set {env : Env} {n : Nat} {v : Value} (h : env n = none) : env.le (env.set n v) := by
  intro k x hk
  unfold Env.set
  split
  · rename_i he; subst he; rw [h] at hk; cases hk
  · exact hk

theorem Env.set_same (env : Env) (n : Nat) (v : Value) : env.set n v n = some v := by simp [Env.set]

theorem look_one {α : Type} {k n : Nat} {v x : α} (h : look [(k, v)] n = some x) : n = k ∧ x = v := by
  rw [look_cons] at h
  split at h
  · rename_i e; cases h; exact ⟨e.symm, rfl⟩
  · simp [lookN, lookC] at h

/-- A new block. -/
theorem Turn.new {n : Nat} {R : Heap} {env : Env} {F : Foot} {w : World} {xs : Array Value} {e : TypeId} {cs : List AV} (hn : env n = none) (hd : Dens env cs xs.toList) :
    Turn n (n + 1) R [] [(n, .box e cs)] env F w (env.set n (.pointer (some ⟨w.heap.size, 0, none⟩))) (fun _ b => b = w.heap.size) (w.alloc (.cells xs e)) := by
  refine ⟨Env.le_set hn, ?_, ⟨?_, ?_⟩, ?_, frame_alloc⟩
  · intro h hh; unfold Env.set; rw [if_neg (by omega)]
  · intro h r hl
    obtain ⟨rfl, rfl⟩ := look_one hl
    refine ⟨_, Env.set_same _ _ _, w.heap.size, xs, rfl, fun _ => Iff.rfl, ?_, Dens.mono (Env.le_set hn) cs hd⟩
    show (w.heap.push _)[w.heap.size]? = _
    simp
  · intro h r h' r' hl hl' hne
    obtain ⟨rfl, rfl⟩ := look_one hl
    obtain ⟨rfl, rfl⟩ := look_one hl'
    exact absurd rfl hne
  · intro h r b hl hb
    exact .inr (.inr (Nat.le_of_eq hb.symm))

theorem triple_new {P : Program} {o : Oper} {fr : Fr} {n : Nat} {e : TypeId} {cs : List AV}
    (h : ∀ env a w, Need env o fr a → ∃ xs : Array Value, (execOp a.eval o).run P w = .ok (.value (.pointer (some ⟨w.heap.size, 0, none⟩))) (w.alloc (.cells xs e)) ∧ Dens env cs xs.toList) :
    Triple P o fr [] [] n (n + 1) (.ptr n 0) [(n, .box e cs)] := by
  intro env F a w next Q hn hs hf hk
  obtain ⟨xs, hr, hd⟩ := h env a w hn
  have hn' := hf n (Nat.le_refl _) (by omega)
  unfold Oper.wp
  rw [hr]
  refine hk _ _ _ _ (Turn.new hn' hd) ?_
  simp only [Den]
  exact ⟨w.heap.size, Env.set_same _ _ _, rfl⟩

theorem triple_alloc {P : Program} {T : Tab} (hT : TabOK P T) {o : Oper} {fr : Fr} {n : Nat} {e : TypeId} {r : TRow} (ho : o.op = .alloc e) (hr : T e = some r) :
    Triple P o fr [] [] n (n + 1) (.ptr n 0) [(n, .box e r.zero)] := by
  refine triple_new fun env a w _ => ?_
  obtain ⟨_, ⟨z, h2, h3⟩, _⟩ := row_info hT hr w
  exact ⟨z.cells, by simp [execOp, ho, Instr.alloc, h2, newVar, newRow], (h3 env).1⟩

def rawA : AV → Bool
  | .raw _ => true
  | _ => false

theorem rawA_no {v : AV} (h : rawA v = false) : ∀ u, v ≠ .raw u := by rintro u rfl; cases h

theorem triple_box {P : Program} {o : Oper} {fr : Fr} {n : Nat} {e : TypeId} {x : Operand} {v : AV} (ho : o.op = .box e x) (hv : ev fr x = some v) (hr : rawA v = false) :
    Triple P o fr [] [] n (n + 1) (.ptr n 0) [(n, .box e (cellsOf v))] := by
  refine triple_new fun env a w hn => ?_
  have hd := ev_den hn (by rw [ho]; simp [Op.operands]) hv
  exact ⟨(a.eval x).cells, by simp [execOp, ho, Instr.box, newVar, newRow], cellsOf_den (rawA_no hr) hd⟩

theorem cell_of {w : World} {b off : Nat} {xs : Array Value} {e : TypeId} {f : Nat × Nat} (h : w.heap[b]? = some (.cells xs e f)) : w.cell? ⟨b, off, none⟩ = xs[off]? := by
  simp [World.cell?, h]

theorem run_load_at {P : Program} {w : World} {a : Addr} {v : Value} (h : w.cell? a = some v) : (load a).run P w = .ok v w := by
  rw [run_load, h]

/-- A value out of cells that lie one behind the other. -/
theorem run_loadVar_cells {P : Program} {T : Tab} (hT : TabOK P T) {t : TypeId} {r : TRow} (hr : T t = some r) {w : World} {b o : Nat} {env : Env} {cs : List AV} {v : AV}
    (hlen : cs.length = r.size) (hc : ∀ i u, cs[i]? = some u → ∃ x, w.cell? ⟨b, o + i, none⟩ = some x ∧ Den env u x)
    (hv : (r.agg = true ∧ v = .agg cs) ∨ (r.agg = false ∧ cs = [v])) : ∃ x, (loadVar t ⟨b, o, none⟩).run P w = .ok x w ∧ Den env v x := by
  obtain ⟨h1, _, _, h4⟩ := row_info hT hr w
  rcases hv with ⟨hag, rfl⟩ | ⟨hag, rfl⟩
  · -- the cells, read
    have hx : ∃ xs : List Value, xs.length = cs.length ∧ (∀ i x, xs[i]? = some x → w.cell? ⟨b, o + i, none⟩ = some x) ∧ Dens env cs xs := by
      clear hlen
      induction cs generalizing o with
      | nil => exact ⟨[], rfl, by simp, by simp [Dens]⟩
      | cons c cs ih =>
        obtain ⟨x, hx, hd⟩ := hc 0 c (by simp)
        obtain ⟨xs, e1, e2, e3⟩ := ih (o := o + 1) (fun i u hu => by
          obtain ⟨y, hy, hyd⟩ := hc (i + 1) u (by simpa using hu)
          exact ⟨y, by rw [show o + 1 + i = o + (i + 1) by omega]; exact hy, hyd⟩)
        refine ⟨x :: xs, by simp [e1], ?_, by simp only [Dens]; exact ⟨x, xs, rfl, hd, e3⟩⟩
        intro i y hy
        cases i with
        | zero => simp at hy; subst hy; exact hx
        | succ i => simp at hy; rw [show o + (i + 1) = o + 1 + i by omega]; exact e2 i y hy
    obtain ⟨xs, e1, e2, e3⟩ := hx
    have hl := run_loadCells_list (P := P) w ⟨b, o, none⟩ xs (fun j v hv => by rw [addr_add]; exact e2 j v hv)
    rw [e1, hlen] at hl
    exact ⟨.agg xs.toArray, by simp [loadVar, h4, hag, h1, hl], by simp only [Den]; exact ⟨_, rfl, by simpa using e3⟩⟩
  · obtain ⟨x, hx, hd⟩ := hc 0 v (by simp)
    exact ⟨x, by simp only [loadVar, Sem.run_bind, h4, Result.andThen_ok, hag, Bool.false_eq_true, if_false]; exact run_load_at (by simpa using hx), hd⟩

/-- What is read from cells: a struct, or one. -/
def readA (ag : Bool) (sz : Nat) (cs : List AV) (off : Nat) : Option AV :=
  match ag with
  | true => match Nat.ble (off + sz) (lenR cs) with | true => some (.agg (takeR sz (dropR off cs))) | false => none
  | false => match Nat.beq sz 1 with | true => nth cs off | false => none

theorem triple_load {P : Program} {T : Tab} (hT : TabOK P T) {o : Oper} {fr : Fr} {n h off : Nat} {t e : TypeId} {x : Operand} {r : TRow} {cs : List AV} {v : AV}
    (ho : o.op = .load t x) (hx : ev fr x = some (.ptr h off)) (hr : T t = some r) (hv : readA r.agg r.size cs off = some v) :
    Triple P o fr [(h, .box e cs)] [] n n v [] := by
  intro env F a w next Q hn hs _ hk
  have hd := ev_den hn (by rw [ho]; simp [Op.operands]) hx
  simp only [Den] at hd
  obtain ⟨b, hb, hx'⟩ := hd
  obtain ⟨v1, hv1, b1, xs, e1, e2, e3, e4⟩ := hs.sat (h := h) (r := .box e cs) (by simp [lookN, lookC, Nat.beq_refl])
  rw [hb] at hv1
  cases hv1
  cases e1
  obtain ⟨ag, sz, z, k⟩ := r
  have : ∃ y, (loadVar t ⟨b, off, none⟩).run P w = .ok y w ∧ Den env v y := by
    cases ag with
    | true =>
      simp only [readA, takeR_eq, dropR_eq, lenR_eq] at hv
      split at hv
      · rename_i hle
        cases hv
        have hle := Nat.le_of_ble_eq_true hle
        refine run_loadVar_cells hT hr (cs := (cs.drop off).take sz) (by simp; omega) ?_ (.inl ⟨rfl, rfl⟩)
        intro i u hu
        rw [List.getElem?_take] at hu
        split at hu
        · rw [List.getElem?_drop] at hu
          obtain ⟨y, hy, hyd⟩ := e4.get hu
          exact ⟨y, by rw [cell_of e3]; simpa using hy, hyd⟩
        · cases hu
      · cases hv
    | false =>
      simp only [readA, takeR_eq, dropR_eq, lenR_eq] at hv
      split at hv
      · rename_i hle
        have hle := Nat.eq_of_beq_eq_true hle
        subst hle
        rw [nth_eq] at hv
        refine run_loadVar_cells hT hr (cs := [v]) rfl ?_ (.inr ⟨rfl, rfl⟩)
        intro i u hu
        cases i with
        | zero =>
          simp at hu; subst hu
          obtain ⟨y, hy, hyd⟩ := e4.get hv
          exact ⟨y, by rw [cell_of e3]; simpa using hy, hyd⟩
        | succ i => simp at hu
      · cases hv
  obtain ⟨y, hy, hyd⟩ := this
  unfold Oper.wp
  rw [show (execOp a.eval o).run P w = .ok (.value y) w by simp [execOp, ho, Instr.loadAt, hx', Instr.sureAddr, hy]]
  exact hk env F y w (Turn.refl _ _ _ _ _) hyd

/-- Cells from a place on, of a resource that reads as cells. -/
def cellsFrom (f : Nat → AV) (c : Nat) : Nat → List AV
  | 0 => []
  | n + 1 => f c :: cellsFrom f (c + 1) n

theorem cellsFrom_get {f : Nat → AV} : ∀ {n c i : Nat} {u : AV}, (cellsFrom f c n)[i]? = some u → u = f (c + i) ∧ i < n
  | 0, c, i, u, h => by simp [cellsFrom] at h
  | n + 1, c, 0, u, h => by simp [cellsFrom] at h; exact ⟨by simp [h], by omega⟩
  | n + 1, c, i + 1, u, h => by
    simp [cellsFrom] at h
    obtain ⟨h1, h2⟩ := cellsFrom_get h
    exact ⟨by rw [h1]; congr 1; omega, by omega⟩

theorem cellsFrom_length (f : Nat → AV) : ∀ (n c : Nat), (cellsFrom f c n).length = n
  | 0, _ => rfl
  | n + 1, c => by simp [cellsFrom, cellsFrom_length f n]

def readEl (ag : Bool) (sz : Nat) (f : Nat → AV) (c : Nat) : AV :=
  match ag with
  | true => .agg (cellsFrom f c sz)
  | false => f c

theorem triple_load_el {P : Program} {T : Tab} (hT : TabOK P T) {o : Oper} {fr : Fr} {n h i c : Nat} {t : TypeId} {x : Operand} {r : TRow} {A : ARes}
    (ho : o.op = .load t x) (hx : ev fr x = some (.el h A.esz i c)) (hr : T t = some r) (hag : r.agg = false → r.size = 1) (hfl : A.flat = true) (hi : i < A.len) (hc : c + r.size ≤ A.esz) :
    Triple P o fr [(h, .abs A)] [] n n (readEl r.agg r.size (A.cell i) c) [] := by
  intro env F a w next Q hn hs _ hk
  have hd := ev_den hn (by rw [ho]; simp [Op.operands]) hx
  simp only [Den] at hd
  obtain ⟨b, o1, len, cap, hb, hx'⟩ := hd
  obtain ⟨v1, hv1, hsat⟩ := hs.sat (h := h) (r := .abs A) (by simp [lookN, lookC, Nat.beq_refl])
  rw [hb] at hv1
  cases hv1
  have hcell : ∀ k, k < r.size → ∃ y, w.cell? ⟨b, o1 + (i * A.esz + c) + k, none⟩ = some y ∧ Den env (A.cell i (c + k)) y := by
    intro k hk
    obtain ⟨b', o', len', cap', e1, y, e2, e3⟩ := A.cells hfl hsat i (c + k) hi (by omega)
    cases e1
    exact ⟨y, by rw [Nat.add_assoc, Nat.add_assoc]; exact e2, e3 env⟩
  have : ∃ y, (loadVar t ⟨b, o1 + (i * A.esz + c), none⟩).run P w = .ok y w ∧ Den env (readEl r.agg r.size (A.cell i) c) y := by
    refine run_loadVar_cells hT hr (cs := cellsFrom (A.cell i) c r.size) (cellsFrom_length _ _ _) ?_ ?_
    · intro k u hu
      obtain ⟨h1, h2⟩ := cellsFrom_get hu
      subst h1
      exact hcell k h2
    · unfold readEl
      cases hag' : r.agg with
      | true => exact .inl ⟨rfl, rfl⟩
      | false => rw [hag hag']; exact .inr ⟨rfl, rfl⟩
  obtain ⟨y, hy, hyd⟩ := this
  unfold Oper.wp
  rw [show (execOp a.eval o).run P w = .ok (.value y) w by simp [execOp, ho, Instr.loadAt, hx', Instr.sureAddr, hy]]
  exact hk env F y w (Turn.refl _ _ _ _ _) hyd

/-- The values that may lie in one cell. -/
def leafA : AV → Bool
  | .agg _ | .tup _ | .raw _ => false
  | _ => true

theorem leafA_one {v : AV} {env : Env} {x : Value} (h : leafA v = true) (hd : Den env v x) : x.oneCell' = true := by
  cases v <;> simp only [leafA] at h <;> (try (cases h; done)) <;> simp only [Den] at hd
  · subst hd; rfl
  · subst hd; rfl
  · subst hd; rfl
  · obtain ⟨_, hd⟩ := hd; cases x <;> first | rfl | exact hd.elim
  · obtain ⟨_, p, c, rfl, _⟩ := hd; rfl
  · obtain ⟨b, _, rfl⟩ := hd; rfl
  · obtain ⟨b, o, l, c, _, rfl⟩ := hd; rfl
  · obtain ⟨b, _, rfl⟩ := hd; rfl
  · obtain ⟨_, _, _, _, _, _, _, rfl, _⟩ := hd; rfl
  · obtain ⟨_, _, rfl⟩ := hd; rfl
  · subst hd; rfl
  · subst hd; rfl
  · subst hd; rfl
  · subst hd; rfl
  · subst hd; rfl
  · obtain ⟨y, rfl, _⟩ := hd; rfl
  · obtain ⟨xs, ys, rfl, _, _⟩ := hd; rfl

theorem leaves_one {env : Env} : ∀ {l : List AV} {xs : List Value}, l.all leafA = true → Dens env l xs → ∀ v ∈ xs, v.oneCell' = true
  | [], xs, _, h => by simp only [Dens] at h; subst h; simp
  | u :: l, xs, ha, h => by
    simp only [Dens] at h
    obtain ⟨y, ys, rfl, h1, h2⟩ := h
    simp only [List.all_cons, Bool.and_eq_true] at ha
    intro v hv
    rcases List.mem_cons.1 hv with rfl | hv
    · exact leafA_one ha.1 h1
    · exact leaves_one ha.2 h2 v hv

/-- A box, written. -/
theorem Turn.write {n h : Nat} {R : Heap} {env : Env} {F : Foot} {w : World} {b : Nat} {xs ys : Array Value} {e : TypeId} {cs cs' : List AV}
    (hs : SatH env ([(h, .box e cs)] ++ R) F w) (hb : env h = some (.pointer (some ⟨b, 0, none⟩))) (hx : w.heap[b]? = some (.cells xs e (0, 0))) (hd : Dens env cs' ys.toList) :
    Turn n n R [(h, .box e cs)] [(h, .box e cs')] env F w env (fun _ k => k = b) (w.setRow b ys) := by
  have hF : ∀ k, F h k ↔ k = b := by
    obtain ⟨v1, hv1, b1, zs, e1, e2, e3, e4⟩ := hs.sat (h := h) (r := .box e cs) (by simp [lookN, lookC, Nat.beq_refl])
    rw [hb] at hv1; cases hv1; cases e1; exact e2
  refine ⟨Env.le.refl _, fun _ _ => rfl, ⟨?_, ?_⟩, ?_, ⟨rfl, rfl, rfl, by simp, ?_⟩⟩
  · intro h' r hl
    obtain ⟨rfl, rfl⟩ := look_one hl
    exact ⟨_, hb, b, ys, rfl, fun _ => Iff.rfl, setRow_heap w b xs ys e (0, 0) hx, hd⟩
  · intro h1 r h2 r' hl hl' hne
    obtain ⟨rfl, rfl⟩ := look_one hl
    obtain ⟨rfl, rfl⟩ := look_one hl'
    exact absurd rfl hne
  · intro h' r k hl hk
    obtain ⟨rfl, rfl⟩ := look_one hl
    exact .inl ⟨h', _, by simp [lookN, lookC, Nat.beq_refl]; rfl, (hF k).2 hk, fun _ => rfl⟩
  · intro k _ hk
    refine setRow_other w b k ys fun e' => hk ⟨h, .box e cs, by simp [lookN, lookC, Nat.beq_refl], rfl, (hF k).2 e'⟩

theorem triple_store {P : Program} {T : Tab} (hT : TabOK P T) {o : Oper} {fr : Fr} {n h off : Nat} {t e : TypeId} {x y : Operand} {r : TRow} {cs : List AV} {v : AV}
    (ho : o.op = .store t x y) (hx : ev fr x = some (.ptr h off)) (hy : ev fr y = some v) (hr : T t = some r) (hv : rawA v = false)
    (hl : (cellsOf v).all leafA = true) (hsz : (cellsOf v).length = r.size) (hle : off + r.size ≤ cs.length) :
    Triple P o fr [] [(h, .box e cs)] n n (.raw undef) [(h, .box e (splice cs off (cellsOf v)))] := by
  intro env F a w next Q hn hs _ hk
  have hd := ev_den hn (by rw [ho]; simp [Op.operands]) hx
  have hdy := ev_den hn (by rw [ho]; simp [Op.operands]) hy
  simp only [Den] at hd
  obtain ⟨b, hb, hx'⟩ := hd
  obtain ⟨v1, hv1, b1, xs, e1, e2, e3, e4⟩ := hs.sat (h := h) (r := .box e cs) (by simp [lookN, lookC, Nat.beq_refl])
  rw [hb] at hv1
  cases hv1
  cases e1
  obtain ⟨h1, _, _, h4⟩ := row_info hT hr w
  have hc := cellsOf_den (rawA_no hv) hdy
  have hlen := hc.length
  have hlen2 := e4.length
  have hb2 : off + 0 + (a.eval y).cells.toList.length ≤ xs.size := by
    rw [← hlen, hsz]; simp at hlen2; omega
  have hst := run_storeCells_at (P := P) b off e (a.eval y).cells.toList 0 xs w e3 hb2 (leaves_one hl hc)
  have hsz' : (a.eval y).cells.size = r.size := by rw [← hsz, hlen]; simp
  unfold Oper.wp
  have hrun : (execOp a.eval o).run P w = .ok .skip (w.setRow b (xs.toList.take off ++ ((a.eval y).cells.toList ++ xs.toList.drop (off + (a.eval y).cells.toList.length))).toArray) := by
    simp only [execOp, ho, Instr.storeAt, Sem.run_bind, hx', Instr.sureAddr, Sem.run_pure, Result.andThen_ok, storeVar, h1, hsz', ne_eq, not_true_eq_false, if_false]
    simp only [Nat.add_zero, List.append_assoc] at hst
    rw [hst]; rfl
  rw [hrun]
  exact hk env _ undef _ (Turn.write hs hb e3 (by simpa using splice_den e4 hc off)) (by simp only [Den])

end
end Go.SX
