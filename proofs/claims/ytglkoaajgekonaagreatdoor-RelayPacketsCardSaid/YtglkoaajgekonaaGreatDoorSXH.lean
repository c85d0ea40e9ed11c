/- SX, part H: the operations on memory. -/
import Derived.Test.YtglkoaajgekonaaGreatDoorSXE
import Derived.Laws.Cells
import Derived.Laws.OwnMore
namespace Go.SX
noncomputable section
theorem frame_alloc {X : Nat → Prop} {w : World} {o : Obj} : FrameW X w (w.alloc o) :=
 ⟨rfl, rfl, rfl, by simp, fun b hb _ => by
  show (w.heap.push o)[b]? = _
  rw [Array.getElem?_push, if_neg (by omega)]⟩
def Env.set (env : Env) (n : Nat) (v : Value) : Env := fun h => if h = n then some v else env h
theorem Env.le_set {env : Env} {n : Nat} {v : Value} (h : env n = none) : env.le (env.set n v) := by
 intro k x hk
 unfold Env.set
 split
 ·rename_i he; subst he; rw [h] at hk; cases hk
 ·exact hk
theorem Env.set_same (env : Env) (n : Nat) (v : Value) : env.set n v n = some v := by simp [Env.set]
theorem look_one {α : Type} {k n : Nat} {v x : α} (h : look [(k, v)] n = some x) : n = k ∧ x = v := by
 rw [look_cons] at h
 split at h
 ·rename_i e; cases h; exact ⟨e.symm, rfl⟩
 ·simp [lookN] at h
theorem Turn.new {n : Nat} {R : Heap} {env : Env} {F : Foot} {w : World} {xs : Array Value} {e : TypeId} {cs : List AV} (hn : env n = none) (hd : Dens env cs xs.toList) :
  Turn n (n + 1) R [] [(n, .box e cs)] env F w (env.set n (.pointer (some ⟨w.heap.size, 0, none⟩))) (fun _ b => b = w.heap.size) (w.alloc (.cells xs e)) := by
 refine ⟨Env.le_set hn, ?_, ⟨?_, ?_⟩, ?_, frame_alloc⟩
 ·intro h hh; unfold Env.set; rw [if_neg (by omega)]
 ·intro h r hl
  obtain ⟨rfl, rfl⟩ := look_one hl
  refine ⟨_, Env.set_same _ _ _, w.heap.size, xs, rfl, fun _ => Iff.rfl, ?_, Dens.mono (Env.le_set hn) cs hd⟩
  show (w.heap.push _)[w.heap.size]? = _
  simp
 ·intro h r h' r' hl hl' hne
  obtain ⟨rfl, rfl⟩ := look_one hl
  obtain ⟨rfl, rfl⟩ := look_one hl'
  exact absurd rfl hne
 ·intro h r b hl hb
  exact .inr (.inr (Nat.le_of_eq hb.symm))
theorem triple_new {P : Program} {o : Oper} {fr : Fr} {n : Nat} {e : TypeId} {cs : List AV}
  (h : ∀ env a w, Need env o fr a → ∃ xs : Array Value, (execOp a.eval o).run P w = .ok (.value (.pointer (some ⟨w.heap.size, 0, none⟩))) (w.alloc (.cells xs e)) ∧ Dens env cs xs.toList) :
  Triple P o fr [] [] n (n + 1) (.ptr n 0) [(n, .box e cs)] := by
 intro env F a w next Q hn hs hf hk
 obtain ⟨xs, hr, hd⟩ := h env a w hn
 have hn' := hf n (Nat.le_refl _) (by omega)
 unfold Oper.wp
 rw [hr]
 refine hk _ _ _ _ (Turn.new hn' hd) ?_
 simp only [Den]
 exact ⟨w.heap.size, Env.set_same _ _ _, rfl⟩
theorem triple_alloc {P : Program} {T : Tab} (hT : TabOK P T) {o : Oper} {fr : Fr} {n : Nat} {e : TypeId} {r : TRow} (ho : o.op = .alloc e) (hr : T e = some r) :
  Triple P o fr [] [] n (n + 1) (.ptr n 0) [(n, .box e r.zero)] := by
 refine triple_new fun env a w _ => ?_
 obtain ⟨_, ⟨z, h2, h3⟩, _⟩ := row_info hT hr w
 exact ⟨z.cells, by simp [execOp, ho, Instr.alloc, h2, newVar, newRow], (h3 env).1⟩
def rawA : AV → Bool
 | .raw _ => true
 | _ => false
theorem rawA_no {v : AV} (h : rawA v = false) : ∀ u, v ≠ .raw u := by rintro u rfl; cases h
theorem triple_box {P : Program} {o : Oper} {fr : Fr} {n : Nat} {e : TypeId} {x : Operand} {v : AV} (ho : o.op = .box e x) (hv : ev fr x = some v) (hr : rawA v = false) :
  Triple P o fr [] [] n (n + 1) (.ptr n 0) [(n, .box e (cellsOf v))] := by
 refine triple_new fun env a w hn => ?_
 have hd := ev_den hn (by rw [ho]; simp [Op.operands]) hv
 exact ⟨(a.eval x).cells, by simp [execOp, ho, Instr.box, newVar, newRow], cellsOf_den (rawA_no hr) hd⟩
theorem cell_of {w : World} {b off : Nat} {xs : Array Value} {e : TypeId} {f : Nat × Nat} (h : w.heap[b]? = some (.cells xs e f)) : w.cell? ⟨b, off, none⟩ = xs[off]? := by
 simp [World.cell?, h]
theorem run_load_at {P : Program} {w : World} {a : Addr} {v : Value} (h : w.cell? a = some v) : (load a).run P w = .ok v w := by
 rw [run_load, h]
theorem run_loadVar_cells {P : Program} {T : Tab} (hT : TabOK P T) {t : TypeId} {r : TRow} (hr : T t = some r) {w : World} {b o : Nat} {env : Env} {cs : List AV} {v : AV}
  (hlen : cs.length = r.size) (hc : ∀ i u, cs[i]? = some u → ∃ x, w.cell? ⟨b, o + i, none⟩ = some x ∧ Den env u x)
  (hv : (r.agg = true ∧ v = .agg cs) ∨ (r.agg = false ∧ cs = [v])) : ∃ x, (loadVar t ⟨b, o, none⟩).run P w = .ok x w ∧ Den env v x := by
 obtain ⟨h1, _, _, h4⟩ := row_info hT hr w
 rcases hv with ⟨hag, rfl⟩ | ⟨hag, rfl⟩
 ·-- the cells, read
  have hx : ∃ xs : List Value, xs.length = cs.length ∧ (∀ i x, xs[i]? = some x → w.cell? ⟨b, o + i, none⟩ = some x) ∧ Dens env cs xs := by
   clear hlen
   induction cs generalizing o with
   | nil => exact ⟨[], rfl, by simp, by simp [Dens]⟩
   | cons c cs ih =>
    obtain ⟨x, hx, hd⟩ := hc 0 c (by simp)
    obtain ⟨xs, e1, e2, e3⟩ := ih (o := o + 1) (fun i u hu => by
     obtain ⟨y, hy, hyd⟩ := hc (i + 1) u (by simpa using hu)
     exact ⟨y, by rw [show o + 1 + i = o + (i + 1) by omega]; exact hy, hyd⟩)
    refine ⟨x :: xs, by simp [e1], ?_, by simp only [Dens]; exact ⟨x, xs, rfl, hd, e3⟩⟩
    intro i y hy
    cases i with
    | zero => simp at hy; subst hy; exact hx
    | succ i => simp at hy; rw [show o + (i + 1) = o + 1 + i by omega]; exact e2 i y hy
  obtain ⟨xs, e1, e2, e3⟩ := hx
  have hl := run_loadCells_list (P := P) w ⟨b, o, none⟩ xs (fun j v hv => by rw [addr_add]; exact e2 j v hv)
  rw [e1, hlen] at hl
  exact ⟨.agg xs.toArray, by simp [loadVar, h4, hag, h1, hl], by simp only [Den]; exact ⟨_, rfl, by simpa using e3⟩⟩
 ·obtain ⟨x, hx, hd⟩ := hc 0 v (by simp)
  exact ⟨x, by simp only [loadVar, Sem.run_bind, h4, Result.andThen_ok, hag, Bool.false_eq_true, if_false]; exact run_load_at (by simpa using hx), hd⟩
def readA (ag : Bool) (sz : Nat) (cs : List AV) (off : Nat) : Option AV :=
 match ag with
 | true => match Nat.ble (off + sz) (lenR cs) with | true => some (.agg (takeR sz (dropR off cs))) | false => none
 | false => match Nat.beq sz 1 with | true => nth cs off | false => none
theorem triple_load {P : Program} {T : Tab} (hT : TabOK P T) {o : Oper} {fr : Fr} {n h off : Nat} {t e : TypeId} {x : Operand} {r : TRow} {cs : List AV} {v : AV}
  (ho : o.op = .load t x) (hx : ev fr x = some (.ptr h off)) (hr : T t = some r) (hv : readA r.agg r.size cs off = some v) :
  Triple P o fr [(h, .box e cs)] [] n n v [] := by
 intro env F a w next Q hn hs _ hk
 have hd := ev_den hn (by rw [ho]; simp [Op.operands]) hx
 simp only [Den] at hd
 obtain ⟨b, hb, hx'⟩ := hd
 obtain ⟨v1, hv1, b1, xs, e1, e2, e3, e4⟩ := hs.sat (h := h) (r := .box e cs) (by simp [lookC, Nat.beq_refl])
 rw [hb] at hv1
 cases hv1
 cases e1
 obtain ⟨ag, sz, z, k⟩ := r
 have : ∃ y, (loadVar t ⟨b, off, none⟩).run P w = .ok y w ∧ Den env v y := by
  cases ag with
  | true =>
   simp only [readA, takeR_eq, dropR_eq, lenR_eq] at hv
   split at hv
   ·rename_i hle
    cases hv
    have hle := Nat.le_of_ble_eq_true hle
    refine run_loadVar_cells hT hr (cs := (cs.drop off).take sz) (by simp; omega) ?_ (.inl ⟨rfl, rfl⟩)
    intro i u hu
    rw [List.getElem?_take] at hu
    split at hu
    ·rw [List.getElem?_drop] at hu
     obtain ⟨y, hy, hyd⟩ := e4.get hu
     exact ⟨y, by rw [cell_of e3]; simpa using hy, hyd⟩
    ·cases hu
   ·cases hv
  | false =>
   simp only [readA] at hv
   split at hv
   ·rename_i hle
    have hle := Nat.eq_of_beq_eq_true hle
    subst hle
    rw [nth_eq] at hv
    refine run_loadVar_cells hT hr (cs := [v]) rfl ?_ (.inr ⟨rfl, rfl⟩)
    intro i u hu
    cases i with
    | zero =>
     simp at hu; subst hu
     obtain ⟨y, hy, hyd⟩ := e4.get hv
     exact ⟨y, by rw [cell_of e3]; simpa using hy, hyd⟩
    | succ i => simp at hu
   ·cases hv
 obtain ⟨y, hy, hyd⟩ := this
 unfold Oper.wp
 rw [show (execOp a.eval o).run P w = .ok (.value y) w by simp [execOp, ho, Instr.loadAt, hx', Instr.sureAddr, hy]]
 exact hk env F y w (Turn.refl _ _ _ _ _) hyd
def cellsFrom (f : Nat → AV) (c : Nat) : Nat → List AV
 | 0 => []
 | n + 1 => f c :: cellsFrom f (c + 1) n
theorem cellsFrom_get {f : Nat → AV} : ∀ {n c i : Nat} {u : AV}, (cellsFrom f c n)[i]? = some u → u = f (c + i) ∧ i < n
 | 0, c, i, u, h => by simp [cellsFrom] at h
 | n + 1, c, 0, u, h => by simp [cellsFrom] at h; exact ⟨by simp [h], by omega⟩
 | n + 1, c, i + 1, u, h => by
  simp [cellsFrom] at h
  obtain ⟨h1, h2⟩ := cellsFrom_get h
  exact ⟨by rw [h1]; congr 1; omega, by omega⟩
theorem cellsFrom_length (f : Nat → AV) : ∀ (n c : Nat), (cellsFrom f c n).length = n
 | 0, _ => rfl
 | n + 1, c => by simp [cellsFrom, cellsFrom_length f n]
def readEl (ag : Bool) (sz : Nat) (f : Nat → AV) (c : Nat) : AV :=
 match ag with
 | true => .agg (cellsFrom f c sz)
 | false => f c
theorem triple_load_el {P : Program} {T : Tab} (hT : TabOK P T) {o : Oper} {fr : Fr} {n h i c : Nat} {t : TypeId} {x : Operand} {r : TRow} {A : ARes}
  (ho : o.op = .load t x) (hx : ev fr x = some (.el h A.esz i c)) (hr : T t = some r) (hag : r.agg = false → r.size = 1) (hfl : A.flat = true) (hi : i < A.len) (hc : c + r.size ≤ A.esz) :
  Triple P o fr [(h, .abs A)] [] n n (readEl r.agg r.size (A.cell i) c) [] := by
 intro env F a w next Q hn hs _ hk
 have hd := ev_den hn (by rw [ho]; simp [Op.operands]) hx
 simp only [Den] at hd
 obtain ⟨b, o1, len, cap, hb, hx'⟩ := hd
 obtain ⟨v1, hv1, hsat⟩ := hs.sat (h := h) (r := .abs A) (by simp [lookC, Nat.beq_refl])
 rw [hb] at hv1
 cases hv1
 have hcell : ∀ k, k < r.size → ∃ y, w.cell? ⟨b, o1 + (i * A.esz + c) + k, none⟩ = some y ∧ Den env (A.cell i (c + k)) y := by
  intro k hk
  obtain ⟨b', o', len', cap', e1, y, e2, e3⟩ := A.cells hfl hsat i (c + k) hi (by omega)
  cases e1
  exact ⟨y, by rw [Nat.add_assoc, Nat.add_assoc]; exact e2, e3 env⟩
 have : ∃ y, (loadVar t ⟨b, o1 + (i * A.esz + c), none⟩).run P w = .ok y w ∧ Den env (readEl r.agg r.size (A.cell i) c) y := by
  refine run_loadVar_cells hT hr (cs := cellsFrom (A.cell i) c r.size) (cellsFrom_length _ _ _) ?_ ?_
  ·intro k u hu
   obtain ⟨h1, h2⟩ := cellsFrom_get hu
   subst h1
   exact hcell k h2
  ·unfold readEl
   cases hag' : r.agg with
   | true => exact .inl ⟨rfl, rfl⟩
   | false => rw [hag hag']; exact .inr ⟨rfl, rfl⟩
 obtain ⟨y, hy, hyd⟩ := this
 unfold Oper.wp
 rw [show (execOp a.eval o).run P w = .ok (.value y) w by simp [execOp, ho, Instr.loadAt, hx', Instr.sureAddr, hy]]
 exact hk env F y w (Turn.refl _ _ _ _ _) hyd
def leafA : AV → Bool
 | .agg _ | .tup _ | .raw _ => false
 | _ => true
theorem leafA_one {v : AV} {env : Env} {x : Value} (h : leafA v = true) (hd : Den env v x) : x.oneCell' = true := by
 cases v <;> simp only [leafA] at h <;> (try (cases h; done)) <;> simp only [Den] at hd
 ·subst hd; rfl
 ·subst hd; rfl
 ·subst hd; rfl
 ·obtain ⟨_, hd⟩ := hd; cases x <;> first | rfl | exact hd.elim
 ·obtain ⟨_, p, c, rfl, _⟩ := hd; rfl
 ·obtain ⟨b, _, rfl⟩ := hd; rfl
 ·obtain ⟨b, o, l, c, _, rfl⟩ := hd; rfl
 ·obtain ⟨b, _, rfl⟩ := hd; rfl
 ·obtain ⟨_, _, _, _, _, _, _, rfl, _⟩ := hd; rfl
 ·obtain ⟨_, _, rfl⟩ := hd; rfl
 ·subst hd; rfl
 ·subst hd; rfl
 ·subst hd; rfl
 ·subst hd; rfl
 ·subst hd; rfl
 ·obtain ⟨y, rfl, _⟩ := hd; rfl
 ·obtain ⟨xs, ys, rfl, _, _⟩ := hd; rfl
theorem leaves_one {env : Env} : ∀ {l : List AV} {xs : List Value}, l.all leafA = true → Dens env l xs → ∀ v ∈ xs, v.oneCell' = true
 | [], xs, _, h => by simp only [Dens] at h; subst h; simp
 | u :: l, xs, ha, h => by
  simp only [Dens] at h
  obtain ⟨y, ys, rfl, h1, h2⟩ := h
  simp only [List.all_cons, Bool.and_eq_true] at ha
  intro v hv
  rcases List.mem_cons.1 hv with rfl | hv
  ·exact leafA_one ha.1 h1
  ·exact leaves_one ha.2 h2 v hv
theorem Turn.write {n h : Nat} {R : Heap} {env : Env} {F : Foot} {w : World} {b : Nat} {xs ys : Array Value} {e : TypeId} {cs cs' : List AV}
  (hs : SatH env ([(h, .box e cs)] ++ R) F w) (hb : env h = some (.pointer (some ⟨b, 0, none⟩))) (hx : w.heap[b]? = some (.cells xs e (0, 0))) (hd : Dens env cs' ys.toList) :
  Turn n n R [(h, .box e cs)] [(h, .box e cs')] env F w env (fun _ k => k = b) (w.setRow b ys) := by
 have hF : ∀ k, F h k ↔ k = b := by
  obtain ⟨v1, hv1, b1, zs, e1, e2, e3, e4⟩ := hs.sat (h := h) (r := .box e cs) (by simp [lookC, Nat.beq_refl])
  rw [hb] at hv1; cases hv1; cases e1; exact e2
 refine ⟨Env.le.refl _, fun _ _ => rfl, ⟨?_, ?_⟩, ?_, ⟨rfl, rfl, rfl, by simp, ?_⟩⟩
 ·intro h' r hl
  obtain ⟨rfl, rfl⟩ := look_one hl
  exact ⟨_, hb, b, ys, rfl, fun _ => Iff.rfl, setRow_heap w b xs ys e (0, 0) hx, hd⟩
 ·intro h1 r h2 r' hl hl' hne
  obtain ⟨rfl, rfl⟩ := look_one hl
  obtain ⟨rfl, rfl⟩ := look_one hl'
  exact absurd rfl hne
 ·intro h' r k hl hk
  obtain ⟨rfl, rfl⟩ := look_one hl
  exact .inl ⟨h', _, by simp [lookC, Nat.beq_refl]; rfl, (hF k).2 hk, fun _ => rfl⟩
 ·intro k _ hk
  refine setRow_other w b k ys fun e' => hk ⟨h, .box e cs, by simp [lookC, Nat.beq_refl], rfl, (hF k).2 e'⟩
theorem triple_store {P : Program} {T : Tab} (hT : TabOK P T) {o : Oper} {fr : Fr} {n h off : Nat} {t e : TypeId} {x y : Operand} {r : TRow} {cs : List AV} {v : AV}
  (ho : o.op = .store t x y) (hx : ev fr x = some (.ptr h off)) (hy : ev fr y = some v) (hr : T t = some r) (hv : rawA v = false)
  (hl : (cellsOf v).all leafA = true) (hsz : (cellsOf v).length = r.size) (hle : off + r.size ≤ cs.length) :
  Triple P o fr [] [(h, .box e cs)] n n (.raw undef) [(h, .box e (splice cs off (cellsOf v)))] := by
 intro env F a w next Q hn hs _ hk
 have hd := ev_den hn (by rw [ho]; simp [Op.operands]) hx
 have hdy := ev_den hn (by rw [ho]; simp [Op.operands]) hy
 simp only [Den] at hd
 obtain ⟨b, hb, hx'⟩ := hd
 obtain ⟨v1, hv1, b1, xs, e1, e2, e3, e4⟩ := hs.sat (h := h) (r := .box e cs) (by simp [lookC, Nat.beq_refl])
 rw [hb] at hv1
 cases hv1
 cases e1
 obtain ⟨h1, _, _, h4⟩ := row_info hT hr w
 have hc := cellsOf_den (rawA_no hv) hdy
 have hlen := hc.length
 have hlen2 := e4.length
 have hb2 : off + 0 + (a.eval y).cells.toList.length ≤ xs.size := by
  rw [← hlen, hsz]; simp at hlen2; omega
 have hst := run_storeCells_at (P := P) b off e (a.eval y).cells.toList 0 xs w e3 hb2 (leaves_one hl hc)
 have hsz' : (a.eval y).cells.size = r.size := by rw [← hsz, hlen]; simp
 unfold Oper.wp
 have hrun : (execOp a.eval o).run P w = .ok .skip (w.setRow b (xs.toList.take off ++ ((a.eval y).cells.toList ++ xs.toList.drop (off + (a.eval y).cells.toList.length))).toArray) := by
  simp only [execOp, ho, Instr.storeAt, Sem.run_bind, hx', Instr.sureAddr, Sem.run_pure, Result.andThen_ok, storeVar, h1, hsz', ne_eq, not_true_eq_false, if_false]
  simp only [Nat.add_zero, List.append_assoc] at hst
  rw [hst]; rfl
 rw [hrun]
 exact hk env _ undef _ (Turn.write hs hb e3 (by simpa using splice_den e4 hc off)) (by simp only [Den])
end
end Go.SX
namespace Go.SX
noncomputable section
theorem reads_stable {v : Value} {len esz : Nat} {cell : Nat → Nat → AV} {F : Nat → Prop} {w w' : World} (h : ReadsAs v len esz cell F w) (hag : Agree F w w') : ReadsAs v len esz cell F w' := by
 obtain ⟨p, cap, h1, hle, h2⟩ := h
 refine ⟨p, cap, h1, hle, ?_⟩
 rcases h2 with h2 | ⟨b, o, arr, e, f, h3, h4, h5, h6⟩
 ·exact .inl h2
 ·exact .inr ⟨b, o, arr, e, f, h3, h4, by rw [hag b ((h4 b).2 rfl)]; exact h5, h6⟩
theorem reads_bound {v : Value} {len esz : Nat} {cell : Nat → Nat → AV} {F : Nat → Prop} {w : World} (h : ReadsAs v len esz cell F w) : ∀ b, F b → b < w.heap.size := by
 obtain ⟨p, cap, h1, _, h2⟩ := h
 intro k hk
 rcases h2 with ⟨_, h2⟩ | ⟨b, o, arr, e, f, h3, h4, h5, h6⟩
 ·exact (h2 k hk).elim
 ·rw [(h4 k).1 hk]; exact getElem?_lt h5
theorem reads_cells {v : Value} {len esz : Nat} {cell : Nat → Nat → AV} {F : Nat → Prop} {w : World} (h : ReadsAs v len esz cell F w) : ∀ i o, i < len → o < esz → ∃ b p n cap, v = .slice (some ⟨b, p, none⟩) n cap ∧
  ∃ x, w.cell? ⟨b, p + (i * esz + o), none⟩ = some x ∧ ∀ env, Den env (cell i o) x := by
 obtain ⟨p, cap, h1, _, h2⟩ := h
 intro i c hi hc
 rcases h2 with ⟨h2, _⟩ | ⟨b, o, arr, e, f, h3, h4, h5, h6⟩
 ·omega
 ·obtain ⟨x, h7, h8⟩ := h6 i c hi hc
  exact ⟨b, o, len, cap, by rw [h1, h3], x, by rw [cell_of h5]; exact h7, h8.2⟩
theorem own_stable {e : Nat} {v : Value} {len esz : Nat} {cell : Nat → Nat → AV} {F : Nat → Prop} {w w' : World} (h : OwnSat e len esz cell v F w) (hag : Agree F w w') : OwnSat e len esz cell v F w' := by
 obtain ⟨xs, ⟨h0, h1⟩, h2, h3⟩ := h
 refine ⟨xs, ⟨h0, ?_⟩, h2, h3⟩
 rcases h1 with h1 | ⟨g, cap, cur, rfl, q1, q2, q3⟩
 ·exact .inl h1
 ·exact .inr ⟨g, cap, cur, rfl, q1, by rw [hag g ((h2 g).2 rfl)]; exact q2, q3⟩
theorem own_reads {e : Nat} {v : Value} {len esz : Nat} {cell : Nat → Nat → AV} {F : Nat → Prop} {w : World} (h : OwnSat e len esz cell v F w) : ReadsAs v len esz cell F w := by
 obtain ⟨xs, ⟨h0, h1⟩, h2, h3⟩ := h
 rcases h1 with ⟨rfl, h1⟩ | ⟨g, cap, cur, rfl, q1, q2, q3, q4, q5, q6⟩
 ·subst h1
  exact ⟨none, 0, rfl, Nat.le_refl _, .inl ⟨rfl, fun b hb => by have := (h2 b).1 hb; simp [Value.ownBlock] at this⟩⟩
 ·refine ⟨some ⟨g, 0, none⟩, cap, rfl, q3, .inr ⟨g, 0, cur, e, (0, 0), rfl, ?_, q2, ?_⟩⟩
  ·intro k
   rw [h2 k]; simp only [Value.ownBlock, Option.some.injEq]
   exact eq_comm
  ·intro i c hi hc
   obtain ⟨x, h7, h8⟩ := h3 i c hi hc
   refine ⟨x, ?_, h8⟩
   rw [← q6, List.getElem?_take] at h7
   split at h7
   ·simpa using h7
   ·cases h7
def lst (k : Option Nat) (len esz : Nat) (cell : Nat → Nat → AV) : ARes where
 ro := match k with | none => true | some _ => false
 tag := some k
 flat := true
 len := len
 esz := esz
 cell := cell
 sat := fun v F w => match k with | none => ReadsAs v len esz cell F w | some e => OwnSat e len esz cell v F w
 stable := by
  intro v F w w' h hag
  cases k with
  | none => exact reads_stable h hag
  | some e => exact own_stable h hag
 bound := by
  intro v F w h
  cases k with
  | none => exact reads_bound h
  | some e => exact reads_bound (own_reads h)
 own := by
  intro e h
  cases h
  exact ⟨rfl, Iff.rfl⟩
 reads := by
  intro j h v F w hs
  cases h
  cases k with
  | none => exact hs
  | some e => exact own_reads hs
 read := by
  intro h
  cases h
  exact ⟨rfl, Iff.rfl⟩
 cells := by
  intro _ v F w h
  cases k with
  | none => exact reads_cells h
  | some e => exact reads_cells (own_reads h)
def cellsAt (cs : List AV) (sz i c : Nat) : AV :=
 match nth cs (i * sz + c) with
 | some v => v
 | none => .nilp
def repA (m sz : Nat) (z : List AV) : List AV := (List.range (m * sz)).map fun j => match nth z (j % sz) with | some v => v | none => .nilp
theorem repA_den {env : Env} {m sz : Nat} {z : List AV} {zv : Array Value} (hz : Dens env z zv.toList) (hs : z.length = sz) (h0 : m * sz ≠ 0) :
  Dens env (repA m sz z) ((Array.range (m * sz)).map (zv[· % zv.size]!)).toList := by
 have hl := hz.length
 have hzv : zv.size = sz := by rw [← hs, hl]; simp
 rw [dens_iff]
 refine ⟨by simp [repA], ?_⟩
 intro i v hi
 unfold repA at hi
 rw [List.getElem?_map] at hi
 have hlt : i < m * sz := by
  rcases Nat.lt_or_ge i (m * sz) with h | h
  ·exact h
  ·rw [List.getElem?_eq_none (by simpa using h)] at hi; cases hi
 have hr : (List.range (m * sz))[i]? = some i := by simp [hlt]
 rw [hr] at hi
 simp only [Option.map_some, Option.some.injEq] at hi
 have hpos : 0 < sz := by
  rcases Nat.eq_zero_or_pos sz with h | h
  ·subst h; simp at h0
  ·exact h
 have hm : i % sz < z.length := by rw [hs]; exact Nat.mod_lt _ hpos
 obtain ⟨x, hx, hd⟩ := hz.get (i := i % sz) (v := z[i % sz]) (List.getElem?_eq_getElem hm)
 rw [nth_eq, List.getElem?_eq_getElem hm] at hi
 simp only at hi; subst hi
 refine ⟨x, ?_, hd⟩
 have hx' : zv[i % sz]? = some x := by simpa using hx
 simp only [Array.toList_map, List.getElem?_map, Array.toList_range, hr, Option.map_some]
 rw [hzv, getElem!_def, hx']
def closedA : AV → Bool
 | .bool _ | .int _ _ | .str _ | .nilp | .nils | .nilm | .nilf | .nili => true
 | .fn _ [] [] => true
 | _ => false
theorem closedA_ok {v : AV} {x : Value} {env env' : Env} (h : closedA v = true) (hd : Den env v x) : Den env' v x := by
 unfold closedA at h
 split at h <;> (try (cases h; done)) <;> simpa only [Den, Dens] using hd
theorem closed_leaf {v : AV} (h : closedA v = true) : leafA v = true := by cases v <;> first | rfl | (cases h; done)
theorem triple_build {P : Program} {T : Tab} (hT : TabOK P T) {o : Oper} {fr : Fr} {n m sz : Nat} {t e : TypeId} {ag : Bool} {z cs : List AV} {k : TK} {ps : Array (Nat × Operand)} {vs : List (Nat × AV)}
  (ho : o.op = .buildSlice t m ps) (hk : kindOf T t = .slice e) (hr : T e = some ⟨ag, sz, z, k⟩) (hv : evps fr ps.toList = some vs) (hz : Nat.beq z.length sz = true) (hm : Nat.ble (m * sz) 16777216 = true) (hm0 : Nat.ble 1 (m * sz) = true)
  (hf : fillA (fun i => some (i * sz, sz)) (repA m sz z) vs = some cs) (hcl : cs.all closedA = true) :
  Triple P o fr [] [] n (n + 1) (.sl n m) [(n, .abs (lst (some e) m sz (cellsAt cs sz)))] := by
 intro env F a w next Q hn hs hfresh hkk
 have hz := Nat.eq_of_beq_eq_true hz
 have hm := Nat.le_of_ble_eq_true hm
 have hm0 := Nat.le_of_ble_eq_true hm0
 have hn' := hfresh n (Nat.le_refl _) (by omega)
 obtain ⟨d, h4, rfl⟩ := kind_run hT hk (by simp) w
 obtain ⟨h1, ⟨zv, h2, h3⟩, _, _⟩ := row_info hT hr w
 have hp := evps_den hn (by intro p hp; rw [ho]; simp only [Op.operands]; simp; exact ⟨p.1, by simpa using hp⟩) hv
 obtain ⟨ys, h8, h9⟩ := fill_ok (place := fun i => some (i * sz, sz)) hp (xs := (Array.range (m * sz)).map (zv.cells[· % zv.cells.size]!)) (repA_den (h3 env).1 hz (by omega)) hf
 have hlen := h9.length
 have hcs : cs.length = m * sz := by
  have key : ∀ {vs : List (Nat × AV)} {c c' : List AV}, fillA (fun i => some (i * sz, sz)) c vs = some c' → c'.length = c.length := by
   intro vs
   induction vs with
   | nil => intro c c' h; simp only [fillA_nil, Option.some.injEq] at h; rw [h]
   | cons p vs ih =>
    intro c c' h
    obtain ⟨i, v⟩ := p
    rw [fillA_cons] at h
    split at h
    ·cases h
    ·rename_i off s2 hpl hraw
     split at h
     ·rename_i q1 q2
      have q1 := Nat.eq_of_beq_eq_true q1
      have q2 := Nat.le_of_ble_eq_true q2
      rw [ih h]
      rw [splice_def]
      simp only [List.length_append, List.length_take, List.length_drop]
      omega
     ·cases h
    ·cases h
  rw [key hf]; simp [repA]
 have hrun : (execOp a.eval o).run P w = .ok (.value (.slice (some ⟨w.heap.size, 0, none⟩) m m)) (w.alloc (.cells ys e)) := by
  have g1 : ¬ (m * sz > 2 ^ 24) := by omega
  have g2 : ¬ (m * sz = 0) := by omega
  simp only [execOp, ho, Instr.buildSlice, Sem.run_bind, h4, Result.andThen_ok, h1, g1, if_false, g2, h2, Sem.run_pure, Array.toList_map, h8, newRow]
  simp
 unfold Oper.wp
 rw [hrun]
 have hmax : m ≤ maxLen := by
  have hsz : 0 < sz := by
   rcases Nat.eq_zero_or_pos sz with h | h
   ·subst h; simp at hm0
   ·exact h
  have : m ≤ m * sz := Nat.le_mul_of_pos_right m hsz
  unfold maxLen; omega
 have hysz : ys.size = m * sz := by
  have : ys.size = ys.toList.length := by simp
  rw [this, ← hlen, hcs]
 have hown := World.ownsRow_lit (base := 0) (e := e) (size := sz) w ys m (Nat.zero_le _) hmax hysz
 refine hkk (env.set n (.slice (some ⟨w.heap.size, 0, none⟩) m m)) (fun _ b => b = w.heap.size) _ _ ⟨Env.le_set hn', ?_, ⟨?_, ?_⟩, ?_, frame_alloc⟩ ?_
 ·intro h hh; unfold Env.set; rw [if_neg (by omega)]
 ·intro h r hl
  obtain ⟨rfl, rfl⟩ := look_one hl
  refine ⟨_, Env.set_same _ _ _, ys.toList, hown, ?_, ?_⟩
  ·intro b; simp only [Value.ownBlock, Option.some.injEq]; exact eq_comm
  ·intro i c hi hc
   have hlt : i * sz + c < cs.length := by
    rw [hcs]
    have : (i + 1) * sz ≤ m * sz := Nat.mul_le_mul_right _ hi
    rw [Nat.add_mul] at this; omega
   obtain ⟨v1, hv1⟩ : ∃ v1, cs[i * sz + c]? = some v1 := ⟨_, List.getElem?_eq_getElem hlt⟩
   obtain ⟨x, hx, hd⟩ := h9.get hv1
   have hc1 := List.all_eq_true.1 hcl v1 (List.mem_of_getElem? hv1)
   refine ⟨x, hx, leafA_one (closed_leaf hc1) hd, ?_⟩
   intro env2
   simp only [cellsAt, nth_eq, hv1]
   exact closedA_ok hc1 hd
 ·intro h r h' r' hl hl' hne
  obtain ⟨rfl, rfl⟩ := look_one hl
  obtain ⟨rfl, rfl⟩ := look_one hl'
  exact absurd rfl hne
 ·intro h r b hl hb
  exact .inr (.inr (Nat.le_of_eq hb.symm))
 ·simp only [Den]
  exact ⟨Env.set_same _ _ _, _, _, rfl, fun _ => ⟨_, _, rfl⟩⟩
def appC (n : Nat) (c1 c2 : Nat → Nat → AV) (i o : Nat) : AV :=
 match Nat.blt i n with
 | true => c1 i o
 | false => c2 (i - n) o
theorem appC_lt {n : Nat} {c1 c2 : Nat → Nat → AV} {i o : Nat} (h : i < n) : appC n c1 c2 i o = c1 i o := by
 unfold appC; have : Nat.blt i n = true := by simpa using h
 rw [this]
theorem appC_ge {n : Nat} {c1 c2 : Nat → Nat → AV} {i o : Nat} (h : n ≤ i) : appC n c1 c2 i o = c2 (i - n) o := by
 unfold appC; have : Nat.blt i n = false := by
  cases hb : Nat.blt i n with
  | false => rfl
  | true => have : i < n := by simpa using hb
            omega
 rw [this]
theorem reads_list {v : Value} {len esz : Nat} {cell : Nat → Nat → AV} {F : Nat → Prop} {w : World} (h : ReadsAs v len esz cell F w) (hz : 0 < esz) :
  (len = 0 ∧ ∃ p cap, v = .slice p 0 cap) ∨ ∃ (a : Addr) (cap : Nat) (news : List Value), v = .slice (some a) len cap ∧ news.length = len * esz ∧ (∀ (j : Nat) (u : Value), news[j]? = some u → w.cell? (a.add j) = some u) ∧
   ∀ i c, i < len → c < esz → (∃ x, news[i * esz + c]? = some x ∧ Clo (cell i c) x) := by
 obtain ⟨p, cap, rfl, _, h⟩ := h
 rcases h with ⟨rfl, _⟩ | ⟨b, o, arr, e, f, rfl, h4, h5, h6⟩
 ·exact .inl ⟨rfl, p, cap, rfl⟩
 ·refine .inr ⟨⟨b, o, none⟩, cap, (arr.toList.drop o).take (len * esz), rfl, ?_, ?_, ?_⟩
  ·simp only [List.length_take, List.length_drop, Array.length_toList]
   rcases Nat.eq_zero_or_pos len with h0 | h0
   ·subst h0; simp
   ·obtain ⟨x, hx, _⟩ := h6 (len - 1) (esz - 1) (by omega) (by omega)
    have hlt := getElem?_lt hx
    have : (len - 1) * esz + esz = len * esz := by
     have : len = (len - 1) + 1 := by omega
     rw [this, Nat.add_mul]; simp
    omega
  ·intro j u hu
   rw [List.getElem?_take] at hu
   split at hu
   ·rw [List.getElem?_drop] at hu
    rw [addr_add, cell_of h5]; simpa using hu
   ·cases hu
  ·intro i c hi hc
   obtain ⟨x, h7, h8⟩ := h6 i c hi hc
   refine ⟨x, ?_, h8⟩
   have hlt : i * esz + c < len * esz := by
    have : (i + 1) * esz ≤ len * esz := Nat.mul_le_mul_right _ hi
    rw [Nat.add_mul] at this; omega
   rw [List.getElem?_take, if_pos hlt, List.getElem?_drop]
   simpa using h7
theorem split_idx {j n z : Nat} (hz : 0 < z) (h : j < n * z) : j / z < n ∧ j % z < z ∧ j = (j / z) * z + j % z :=
 ⟨(Nat.div_lt_iff_lt_mul hz).2 h, Nat.mod_lt _ hz, by rw [Nat.mul_comm]; exact (Nat.div_add_mod j z).symm⟩
theorem append_sat {P : Program} {w : World} {t e sz m n : Nat} {c1 c2 : Nat → Nat → AV} {v1 v2 : Value} {F1 F2 : Nat → Prop} {i : TypeInfo} {z : Value} {ty : TypeId}
  (ht : P.underlying t = some (.slice e)) (hi : P.info? e = some i) (hz : i.zero = some z) (hsize : i.size = sz) (hzs : z.cells.size = sz) (hsz : 0 < sz)
  (h1 : OwnSat e n sz c1 v1 F1 w) (h2 : ReadsAs v2 m sz c2 F2 w) (hb : (n + m) * i.bytes ≤ 140737488355328) (hm : n + m ≤ maxLen) :
  ∃ v' w', (Builtin.append_ #[t, t] ty #[v1, v2]).run P w = .ok v' w' ∧ OwnSat e (n + m) sz (appC n c1 c2) v' (fun b => v'.ownBlock = some b) w' ∧
   FrameW F1 w w' ∧ (∀ b, v'.ownBlock = some b → F1 b ∨ w.heap.size ≤ b) := by
 obtain ⟨xs, hown, hF, hc⟩ := h1
 have same : ∀ {v' : Value} {w' : World} {ys : List Value}, w'.ownsRow 0 e sz v' (n + m) (xs ++ ys) → (∀ i c, i < m → c < sz → ∃ x, ys[i * sz + c]? = some x ∧ Clo (c2 i c) x) →
   OwnSat e (n + m) sz (appC n c1 c2) v' (fun b => v'.ownBlock = some b) w' := by
  intro v' w' ys ho hy
  refine ⟨xs ++ ys, ho, fun b => Iff.rfl, ?_⟩
  intro i c hi hcc
  have hxl := hown.1
  by_cases hin : i < n
  ·obtain ⟨x, g1, g2⟩ := hc i c hin hcc
   refine ⟨x, ?_, by rw [appC_lt hin]; exact g2⟩
   have hlt : i * sz + c < xs.length := by
    rcases Nat.lt_or_ge (i * sz + c) xs.length with h | h
    ·exact h
    ·rw [List.getElem?_eq_none h] at g1; cases g1
   rw [List.getElem?_append_left hlt]; exact g1
  ·obtain ⟨x, g1, g2⟩ := hy (i - n) c (by omega) hcc
   refine ⟨x, ?_, by rw [appC_ge (by omega)]; exact g2⟩
   have he : i * sz + c = xs.length + ((i - n) * sz + c) := by
    rw [hxl]
    have : i = n + (i - n) := by omega
    rw [← Nat.add_assoc, ← Nat.add_mul, ← this]
   rw [he, List.getElem?_append_right (by omega)]
   simpa using g1
 have none0 : ∀ {p : Option Addr} {cap : Nat}, m = 0 → p = none → v2 = .slice p 0 cap → ∃ v' w', (Builtin.append_ #[t, t] ty #[v1, v2]).run P w = .ok v' w' ∧ OwnSat e (n + m) sz (appC n c1 c2) v' (fun b => v'.ownBlock = some b) w' ∧
   FrameW F1 w w' ∧ (∀ b, v'.ownBlock = some b → F1 b ∨ w.heap.size ≤ b) := by
  rintro p cap rfl rfl rfl
  refine ⟨v1, w, ?_, same (ys := []) (by simpa using hown) (by intro i c h; omega), FrameW.refl _ _, fun b hb => .inl ((hF b).2 hb)⟩
  rcases hown.2 with ⟨rfl, rfl⟩ | ⟨g, cp, cur, rfl, _, _, hnc, _⟩
  ·simp [Builtin.append_, run_underlying ht, sizeOf, typeInfo, hi, Builtin.lenOf, Builtin.firstCells]
  ·simp [Builtin.append_, run_underlying ht, sizeOf, typeInfo, hi, Builtin.lenOf, Builtin.firstCells, hnc, storeCells]
 have some1 : ∀ {a : Addr} {cap : Nat} {news : List Value}, v2 = .slice (some a) m cap → news.length = m * sz → (∀ (j : Nat) (u : Value), news[j]? = some u → w.cell? (a.add j) = some u) →
   (∀ i c, i < m → c < sz → ∃ x, news[i * sz + c]? = some x ∧ Clo (c2 i c) x) → ∃ v' w', (Builtin.append_ #[t, t] ty #[v1, v2]).run P w = .ok v' w' ∧ OwnSat e (n + m) sz (appC n c1 c2) v' (fun b => v'.ownBlock = some b) w' ∧
   FrameW F1 w w' ∧ (∀ b, v'.ownBlock = some b → F1 b ∨ w.heap.size ≤ b) := by
  rintro a cap news rfl hl hnews hcl
  have h1c : ∀ u ∈ news, u.oneCell' = true := by
   intro u hu
   obtain ⟨j, hj⟩ := List.getElem?_of_mem hu
   have hlt : j < m * sz := by
    rw [← hl]
    rcases Nat.lt_or_ge j news.length with h | h
    ·exact h
    ·rw [List.getElem?_eq_none h] at hj; cases hj
   obtain ⟨q1, q2, q3⟩ := split_idx hsz hlt
   obtain ⟨x, g1, g2⟩ := hcl (j / sz) (j % sz) q1 q2
   rw [← q3, hj] at g1
   cases g1; exact g2.1
  obtain ⟨v', w', hr, ho, hg, _⟩ := run_append_own (P := P) (w := w) 0 t ty e i z sz i.bytes ht hi hz hsize rfl hzs hsz v1 n xs hown a m cap news hl hnews h1c hm hb (Nat.zero_le _)
  refine ⟨v', w', hr, same ho hcl, ⟨hg.os, hg.tape, hg.output, hg.size, ?_⟩, ?_⟩
  ·intro k hk hx
   exact hg.block k hk (fun e' => hx ((hF k).2 e'.symm))
  ·-- where it lies now
   have hmax : ((n + m : Nat) : Int) ≤ 9223372036854775807 := by unfold maxLen at hm; omega
   intro k hk
   subst hsize
   rcases hown.2 with ⟨rfl, rfl⟩ | ⟨g, cp, cur, rfl, hbg, hgc, hnc, hcm, hcs, htake⟩
   ·by_cases hm0 : m = 0
    ·subst hm0
     have hn : news = [] := List.eq_nil_of_length_eq_zero (by simpa using hl)
     subst hn
     have hr2 : (Builtin.append_ #[t, t] ty #[.slice none 0 0, .slice (some a) 0 cap]).run P w = .ok (.slice none 0 0) w := by
      simp [Builtin.append_, run_underlying ht, sizeOf, typeInfo, hi, Builtin.lenOf, Builtin.firstCells, loadCells, loadCellsFrom]
     rw [hr2] at hr; cases hr
     simp [Value.ownBlock] at hk
    ·have hr2 := run_append_nil (P := P) w t ty e i z ht hi hz a m cap news hl hnews (by omega) (by omega) (by simp only [Nat.zero_add] at hb; omega)
     rw [hr2] at hr; cases hr
     simp only [Value.ownBlock, Option.some.injEq] at hk
     exact .inr (by omega)
   ·by_cases hroom : n + m ≤ cp
    ·have hfit : n * i.size + news.length ≤ cur.size := by rw [hl, hcs, ← Nat.add_mul]; exact Nat.mul_le_mul_right _ hroom
     have hr2 := run_append_room (P := P) w t ty e i ht hi g n cp cur hgc a m cap news hl hnews h1c hroom hfit
     rw [hr2] at hr; cases hr
     exact .inl ((hF k).2 hk)
    ·have holds : ∀ j u, xs[j]? = some u → w.cell? ((⟨g, 0, none⟩ : Addr).add j) = some u := hown.cells (g := g) rfl
     have hr2 := run_append_grow (P := P) w t ty e i z ht hi hz ⟨g, 0, none⟩ n cp xs hown.1 holds a m cap news hl hnews (by omega) hmax (growslice_fits (by omega) hb)
     rw [hr2] at hr; cases hr
     simp only [Value.ownBlock, Option.some.injEq] at hk
     exact .inr (by omega)
 rcases reads_list h2 hsz with ⟨rfl, p, cap, rfl⟩ | ⟨a, cap, news, rfl, hl, hnews, hcl⟩
 ·cases p with
  | none => exact none0 rfl rfl rfl
  | some a => exact some1 (a := a) (cap := cap) (news := []) rfl (by simp) (by simp) (by intro i c h; omega)
 ·exact some1 rfl hl hnews hcl
def room : Nat := 4398046511104
theorem triple_append {P : Program} {T : Tab} (hT : TabOK P T) {o : Oper} {fr : Fr} {n h h2 l1 l2 t e sz : Nat} {ag : Bool} {z : List AV} {kk : TK} {x y : Operand} {A B : ARes} {j : Option Nat}
  (ho : o.op = .call { callee := .builtin .append, args := #[x, y], argTypes := #[t, t] }) (hx : ev fr x = some (.sl h l1)) (hy : ev fr y = some (.sl h2 l2)) (hk : kindOf T t = .slice e) (hr : T e = some ⟨ag, sz, z, kk⟩)
  (hA : A.tag = some (some e)) (hB : B.tag = some j) (hz1 : A.esz = sz) (hz2 : B.esz = sz) (hz0 : 0 < sz) (hzl : z.length = sz) (hne : h ≠ h2) (hroom : (A.len + B.len) * sz ≤ room) :
  Triple P o fr [(h2, .abs B)] [(h, .abs A)] n (n + 1) (.sl n (A.len + B.len)) [(h, .gone), (n, .abs (lst (some e) (A.len + B.len) sz (appC A.len A.cell B.cell)))] := by
 intro env F a w next Q hn hs hfresh hkk
 have hn' := hfresh n (Nat.le_refl _) (by omega)
 have hd1 := ev_den hn (by rw [ho]; simp [Op.operands, Call.operands]) hx
 have hd2 := ev_den hn (by rw [ho]; simp [Op.operands, Call.operands]) hy
 simp only [Den] at hd1 hd2
 obtain ⟨e1, _⟩ := hd1
 obtain ⟨e2, _⟩ := hd2
 have lA : look ([(h, Res.abs A)] ++ [(h2, Res.abs B)]) h = some (.abs A) := by simp [lookC, Nat.beq_refl]
 have lB : look ([(h, Res.abs A)] ++ [(h2, Res.abs B)]) h2 = some (.abs B) := by
  rw [look_append, look_cons, if_neg hne]; simp [lookN, lookC, Nat.beq_refl]
 obtain ⟨v1, hv1, s1⟩ := hs.sat lA
 obtain ⟨v2, hv2, s2⟩ := hs.sat lB
 rw [e1] at hv1; cases hv1
 rw [e2] at hv2; cases hv2
 have o1 := (A.own e hA).2.1 s1
 have r2 := B.reads j hB s2
 rw [hz1] at o1; rw [hz2] at r2
 obtain ⟨d, hu, h5⟩ := kindOf_ok hT hk (by simp)
 simp only [KindOK] at h5; subst h5
 obtain ⟨⟨i, zv, g1, g2, g3, g4, g5, g6⟩, _⟩ := hT e _ hr
 simp only at g2 g5
 have hzs : zv.cells.size = sz := by
  have := (g5 env).length
  rw [hzl] at this; simpa using this.symm
 have hb : (A.len + B.len) * i.bytes ≤ 140737488355328 := by
  have : (A.len + B.len) * i.bytes ≤ (A.len + B.len) * (32 * sz) := Nat.mul_le_mul_left _ (by rw [← g2]; exact g6)
  have h32 : (A.len + B.len) * (32 * sz) = 32 * ((A.len + B.len) * sz) := by rw [Nat.mul_left_comm]
  unfold room at hroom; omega
 have hm : A.len + B.len ≤ maxLen := by
  have : A.len + B.len ≤ (A.len + B.len) * sz := Nat.le_mul_of_pos_right _ hz0
  unfold room at hroom; unfold maxLen; omega
 obtain ⟨v', w', hrun, hsat, hfr, hown⟩ := append_sat (P := P) (ty := o.type) hu g1 g3 g2 hzs hz0 o1 r2 hb hm
 have hv' : ∃ p cap, v' = .slice p (A.len + B.len) cap ∧ (0 < A.len + B.len → ∃ b o, p = some ⟨b, o, none⟩) := by
  obtain ⟨p, cap, q1, _, q2⟩ := own_reads hsat
  refine ⟨p, cap, q1, fun hpos => ?_⟩
  rcases q2 with ⟨q2, _⟩ | ⟨b, o', _, _, _, q3, _⟩
  ·omega
  ·exact ⟨b, o', q3⟩
 unfold Oper.wp
 have hex : (execOp a.eval o).run P w = .ok (.value v') w' := by
  simp only [execOp, ho, resolve, invoke, builtin, Sem.run_bind, Sem.run_pure, Result.andThen_ok]
  simp only [List.map_toArray, List.map_cons, List.map_nil]
  rw [hrun]; rfl
 rw [hex]
 refine hkk (env.set n v') (fun k b => k = n ∧ v'.ownBlock = some b) v' w' ⟨Env.le_set hn', ?_, ⟨?_, ?_⟩, ?_, ?_⟩ ?_
 ·intro k hk2; unfold Env.set; rw [if_neg (by omega)]
 ·intro k r hl
  rw [look_cons] at hl
  split at hl
  ·rename_i ek; subst ek; cases hl
   have hkn : h ≠ n := by rintro rfl; rw [hn'] at e1; cases e1
   exact ⟨_, Env.le_set hn' _ _ e1, fun b hb => hkn hb.1⟩
  ·obtain ⟨rfl, rfl⟩ := look_one hl
   refine ⟨v', Env.set_same _ _ _, ?_⟩
   have : (fun b => k = k ∧ v'.ownBlock = some b) = fun b => v'.ownBlock = some b := by funext b; simp
   show OwnSat e (A.len + B.len) sz (appC A.len A.cell B.cell) v' (fun b => k = k ∧ v'.ownBlock = some b) w'
   rw [this]; exact hsat
 ·intro k r k' r' hl hl' hne' _ b hb hb'
  exact hne' (hb.1.trans hb'.1.symm)
 ·intro k r b hl hb
  rcases hown b hb.2 with q | q
  ·exact .inl ⟨h, .abs A, by simp [lookC, Nat.beq_refl], q, fun _ => by simp [Res.excl, (A.own e hA).1]⟩
  ·exact .inr (.inr q)
 ·refine hfr.mono ?_
  intro b hb
  exact ⟨h, .abs A, by simp [lookC, Nat.beq_refl], by simp [Res.excl, (A.own e hA).1], hb⟩
 ·simp only [Den]
  exact ⟨Env.set_same _ _ _, hv'⟩
theorem triple_append_nil {P : Program} {T : Tab} (hT : TabOK P T) {o : Oper} {fr : Fr} {n h2 l2 t e sz : Nat} {ag : Bool} {z : List AV} {kk : TK} {x y : Operand} {B : ARes} {j : Option Nat}
  (ho : o.op = .call { callee := .builtin .append, args := #[x, y], argTypes := #[t, t] }) (hx : ev fr x = some .nils) (hy : ev fr y = some (.sl h2 l2)) (hk : kindOf T t = .slice e) (hr : T e = some ⟨ag, sz, z, kk⟩)
  (hB : B.tag = some j) (hz2 : B.esz = sz) (hz0 : 0 < sz) (hzl : z.length = sz) (hroom : B.len * sz ≤ room) :
  Triple P o fr [(h2, .abs B)] [] n (n + 1) (.sl n B.len) [(n, .abs (lst (some e) B.len sz B.cell))] := by
 intro env F a w next Q hn hs hfresh hkk
 have hn' := hfresh n (Nat.le_refl _) (by omega)
 have hd1 := ev_den hn (by rw [ho]; simp [Op.operands, Call.operands]) hx
 have hd2 := ev_den hn (by rw [ho]; simp [Op.operands, Call.operands]) hy
 simp only [Den] at hd1 hd2
 obtain ⟨e2, _⟩ := hd2
 obtain ⟨v2, hv2, s2⟩ := hs.sat (h := h2) (r := .abs B) (by simp [lookC, Nat.beq_refl])
 rw [e2] at hv2; cases hv2
 have r2 := B.reads j hB s2
 rw [hz2] at r2
 obtain ⟨d, hu, h5⟩ := kindOf_ok hT hk (by simp)
 simp only [KindOK] at h5; subst h5
 obtain ⟨⟨i, zv, g1, g2, g3, g4, g5, g6⟩, _⟩ := hT e _ hr
 simp only at g2 g5
 have hzs : zv.cells.size = sz := by
  have := (g5 env).length
  rw [hzl] at this; simpa using this.symm
 have hb : (0 + B.len) * i.bytes ≤ 140737488355328 := by
  have : B.len * i.bytes ≤ B.len * (32 * sz) := Nat.mul_le_mul_left _ (by rw [← g2]; exact g6)
  have h32 : B.len * (32 * sz) = 32 * (B.len * sz) := by rw [Nat.mul_left_comm]
  unfold room at hroom; rw [Nat.zero_add]; omega
 have hm : 0 + B.len ≤ maxLen := by
  have : B.len ≤ B.len * sz := Nat.le_mul_of_pos_right _ hz0
  unfold room at hroom; unfold maxLen; omega
 have o1 : OwnSat e 0 sz (fun _ _ => .nilp) (.slice none 0 0) (fun _ => False) w :=
  ⟨[], World.ownsRow_nil w 0 e sz, fun b => by simp [Value.ownBlock], by intro i c h; omega⟩
 obtain ⟨v', w', hrun, hsat, hfr, hown⟩ := append_sat (P := P) (ty := o.type) hu g1 g3 g2 hzs hz0 o1 r2 hb hm
 rw [Nat.zero_add] at hsat
 have hsat2 : OwnSat e B.len sz B.cell v' (fun b => v'.ownBlock = some b) w' := by
  obtain ⟨xs, q1, q2, q3⟩ := hsat
  exact ⟨xs, q1, q2, fun i c hi hc => by have := q3 i c hi hc; rwa [appC_ge (Nat.zero_le _), Nat.sub_zero] at this⟩
 have hv' : ∃ p cap, v' = .slice p B.len cap ∧ (0 < B.len → ∃ b o, p = some ⟨b, o, none⟩) := by
  obtain ⟨p, cap, q1, _, q2⟩ := own_reads hsat2
  refine ⟨p, cap, q1, fun hpos => ?_⟩
  rcases q2 with ⟨q2, _⟩ | ⟨b, o', _, _, _, q3, _⟩
  ·omega
  ·exact ⟨b, o', q3⟩
 unfold Oper.wp
 have hex : (execOp a.eval o).run P w = .ok (.value v') w' := by
  simp only [execOp, ho, resolve, invoke, builtin, Sem.run_bind, Sem.run_pure, Result.andThen_ok]
  simp only [List.map_toArray, List.map_cons, List.map_nil, hd1]
  rw [hrun]; rfl
 rw [hex]
 refine hkk (env.set n v') (fun k b => k = n ∧ v'.ownBlock = some b) v' w' ⟨Env.le_set hn', ?_, ⟨?_, ?_⟩, ?_, ?_⟩ ?_
 ·intro k hk2; unfold Env.set; rw [if_neg (by omega)]
 ·intro k r hl
  obtain ⟨rfl, rfl⟩ := look_one hl
  refine ⟨v', Env.set_same _ _ _, ?_⟩
  have : (fun b => k = k ∧ v'.ownBlock = some b) = fun b => v'.ownBlock = some b := by funext b; simp
  show OwnSat e B.len sz B.cell v' (fun b => k = k ∧ v'.ownBlock = some b) w'
  rw [this]; exact hsat2
 ·intro k r k' r' hl hl' hne' _ b hb hb'
  exact hne' (hb.1.trans hb'.1.symm)
 ·intro k r b hl hb
  rcases hown b hb.2 with q | q
  ·exact q.elim
  ·exact .inr (.inr q)
 ·exact hfr.mono (fun b hb => hb.elim)
 ·simp only [Den]
  exact ⟨Env.set_same _ _ _, hv'⟩
def subC (lo : Nat) (c : Nat → Nat → AV) (i o : Nat) : AV := c (lo + i) o
theorem slice_sat {P : Program} {w : World} {t e sz len lo hi : Nat} {c : Nat → Nat → AV} {v : Value} {F : Nat → Prop} {lv hv : Option Value} {i : TypeInfo} {kl kh : IntKind}
  (ht : P.underlying t = some (.slice e)) (hi' : P.info? e = some i) (hsize : i.size = sz) (h : ReadsAs v len sz c F w) (h1 : lo ≤ hi) (h2 : hi ≤ len)
  (hl : (lv = none ∧ lo = 0) ∨ lv = some (.int kl lo)) (hh : (hv = none ∧ hi = len) ∨ hv = some (.int kh hi)) :
  ∃ v', (Instr.sliceAt t v lv hv none).run P w = .ok v' w ∧ ∃ F', ReadsAs v' (hi - lo) sz (subC lo c) F' w ∧ ∀ b, F' b → F b := by
 obtain ⟨p, cap, rfl, hle, h⟩ := h
 have hbounds : (Instr.sliceBounds true len cap lv hv none).run P w = .ok (lo, hi, cap) w := by
  have a2 : hi ≤ cap := by omega
  rcases hl with ⟨rfl, rfl⟩ | rfl <;> rcases hh with ⟨rfl, rfl⟩ | rfl <;> simp [Instr.sliceBounds, Instr.sliceBound, asIntOf, a2, h1]
 refine ⟨.slice (if cap = lo then p else p.map (·.add (lo * sz))) (hi - lo) (cap - lo), ?_, ?_⟩
 ·simp [Instr.sliceAt, Instr.slice, run_underlying ht, hbounds, sizeOf, typeInfo, hi', hsize]
 ·by_cases h0 : hi - lo = 0
  ·exact ⟨fun _ => False, ⟨_, _, rfl, by omega, .inl ⟨h0, fun _ h => h⟩⟩, fun _ h => h.elim⟩
  ·rcases h with ⟨hz, _⟩ | ⟨b, o, arr, e', f, rfl, h4, h5, h6⟩
   ·omega
   ·refine ⟨F, ⟨_, _, rfl, by omega, .inr ⟨b, o + lo * sz, arr, e', f, ?_, h4, h5, ?_⟩⟩, fun _ h => h⟩
    ·rw [if_neg (by omega)]; simp [addr_add]
    ·intro j k hj hk
     obtain ⟨x, g1, g2⟩ := h6 (lo + j) k (by omega) hk
     refine ⟨x, ?_, g2⟩
     rw [← g1]; congr 1
     rw [Nat.add_mul]; omega
structure DP where
 p : Prop
 d : Decidable p
def sliceB (len : Nat) (lo hi : Option AV) : Option (DP × Nat × Nat) :=
 match lo, hi with
 | none, none => some (⟨True, inferInstance⟩, 0, len)
 | some (.int _ l), none => some (⟨0 ≤ l ∧ l ≤ len, inferInstance⟩, l.toNat, len)
 | none, some (.int _ h) => some (⟨0 ≤ h ∧ h ≤ len, inferInstance⟩, 0, h.toNat)
 | some (.int _ l), some (.int _ h) => some (⟨0 ≤ l ∧ l ≤ h ∧ h ≤ len, inferInstance⟩, l.toNat, h.toNat)
 | _, _ => none
theorem sliceB_ok {len : Nat} {l h : Option AV} {p : DP} {lo hi : Nat} {env : Env} {lv hv : Option Value} (hb : sliceB len l h = some (p, lo, hi)) (hp : p.p)
  (hl : ∀ x, l = some x → ∃ y, lv = some y ∧ Den env x y) (hln : l = none → lv = none) (hh : ∀ x, h = some x → ∃ y, hv = some y ∧ Den env x y) (hhn : h = none → hv = none) :
  lo ≤ hi ∧ hi ≤ len ∧ (∃ kl, (lv = none ∧ lo = 0) ∨ lv = some (.int kl lo)) ∧ (∃ kh, (hv = none ∧ hi = len) ∨ hv = some (.int kh hi)) := by
 unfold sliceB at hb
 split at hb
 ·simp only [Option.some.injEq, Prod.mk.injEq] at hb
  obtain ⟨rfl, rfl, rfl⟩ := hb
  exact ⟨Nat.zero_le _, Nat.le_refl _, ⟨.i64, .inl ⟨hln rfl, rfl⟩⟩, ⟨.i64, .inl ⟨hhn rfl, rfl⟩⟩⟩
 ·rename_i k n
  simp only [Option.some.injEq, Prod.mk.injEq] at hb
  obtain ⟨rfl, rfl, rfl⟩ := hb
  obtain ⟨y, rfl, hd⟩ := hl _ rfl
  simp only [Den] at hd; subst hd
  exact ⟨by omega, Nat.le_refl _, ⟨k, .inr (by rw [show ((n.toNat : Nat) : Int) = n by omega])⟩, ⟨.i64, .inl ⟨hhn rfl, rfl⟩⟩⟩
 ·rename_i k n
  simp only [Option.some.injEq, Prod.mk.injEq] at hb
  obtain ⟨rfl, rfl, rfl⟩ := hb
  obtain ⟨y, rfl, hd⟩ := hh _ rfl
  simp only [Den] at hd; subst hd
  exact ⟨by omega, by omega, ⟨.i64, .inl ⟨hln rfl, rfl⟩⟩, ⟨k, .inr (by rw [show ((n.toNat : Nat) : Int) = n by omega])⟩⟩
 ·rename_i k n k' m
  simp only [Option.some.injEq, Prod.mk.injEq] at hb
  obtain ⟨rfl, rfl, rfl⟩ := hb
  obtain ⟨y, rfl, hd⟩ := hl _ rfl
  obtain ⟨y', rfl, hd'⟩ := hh _ rfl
  simp only [Den] at hd hd'; subst hd; subst hd'
  exact ⟨by omega, by omega, ⟨k, .inr (by rw [show ((n.toNat : Nat) : Int) = n by omega])⟩, ⟨k', .inr (by rw [show ((m.toNat : Nat) : Int) = m by omega])⟩⟩
 ·cases hb
theorem triple_slice {P : Program} {T : Tab} (hT : TabOK P T) {o : Oper} {fr : Fr} {n h len t e lo hi : Nat} {ag : Bool} {z : List AV} {kk : TK} {x : Operand} {lx hx : Option Operand} {l u : Option AV} {A : ARes} {p : DP}
  (ho : o.op = .slice t x lx hx none) (hxv : ev fr x = some (.sl h len)) (hl : evo fr lx = some l) (hu : evo fr hx = some u) (hk : kindOf T t = .slice e) (hr : T e = some ⟨ag, A.esz, z, kk⟩)
  (hA : A.tag = some none) (hb : sliceB A.len l u = some (p, lo, hi)) (hp : p.p) :
  Triple P o fr [(h, .abs A)] [] n (n + 1) (.sl n (hi - lo)) [(n, .abs (lst none (hi - lo) A.esz (subC lo A.cell)))] := by
 intro env F a w next Q hn hs hfresh hkk
 have hn' := hfresh n (Nat.le_refl _) (by omega)
 have hd1 := ev_den hn (by rw [ho]; simp [Op.operands]) hxv
 simp only [Den] at hd1
 obtain ⟨e1, _⟩ := hd1
 obtain ⟨v1, hv1, s1⟩ := hs.sat (h := h) (r := .abs A) (by simp [lookC, Nat.beq_refl])
 rw [e1] at hv1; cases hv1
 obtain ⟨hro, hsat⟩ := A.read hA
 have r1 := hsat.1 s1
 obtain ⟨d, hut, h5⟩ := kindOf_ok hT hk (by simp)
 simp only [KindOK] at h5; subst h5
 obtain ⟨⟨i, zv, g1, g2, _⟩, _⟩ := hT e _ hr
 have k1 := evo_den hn (by intro y hy; subst hy; rw [ho]; simp [Op.operands]) hl
 have k2 := evo_den hn (by intro y hy; subst hy; rw [ho]; simp [Op.operands]) hu
 obtain ⟨b1, b2, ⟨kl, b3⟩, ⟨kh, b4⟩⟩ := sliceB_ok hb hp k1.1 k1.2 k2.1 k2.2
 obtain ⟨v', hrun, F', hread, hsub⟩ := slice_sat (P := P) hut g1 g2 r1 b1 b2 b3 b4
 have hv' : ∃ p cap, v' = .slice p (hi - lo) cap ∧ (0 < hi - lo → ∃ b o, p = some ⟨b, o, none⟩) := by
  obtain ⟨p, cap, q1, _, q2⟩ := hread
  refine ⟨p, cap, q1, fun hpos => ?_⟩
  rcases q2 with ⟨q2, _⟩ | ⟨b, o', _, _, _, q3, _⟩
  ·omega
  ·exact ⟨b, o', q3⟩
 unfold Oper.wp
 have hex : (execOp a.eval o).run P w = .ok (.value v') w := by
  simp only [execOp, ho, Sem.run_bind, Option.map_none]
  rw [hrun]; rfl
 rw [hex]
 refine hkk (env.set n v') (fun _ b => F' b) v' w ⟨Env.le_set hn', ?_, ⟨?_, ?_⟩, ?_, FrameW.refl _ _⟩ ?_
 ·intro k hk2; unfold Env.set; rw [if_neg (by omega)]
 ·intro k r hl
  obtain ⟨rfl, rfl⟩ := look_one hl
  exact ⟨v', Env.set_same _ _ _, hread⟩
 ·intro k r k' r' hl hl' hne'
  obtain ⟨rfl, rfl⟩ := look_one hl
  obtain ⟨rfl, rfl⟩ := look_one hl'
  exact absurd rfl hne'
 ·intro k r b hl hbb
  obtain ⟨rfl, rfl⟩ := look_one hl
  exact .inr (.inl ⟨h, .abs A, by simp [lookC, Nat.beq_refl], hsub b hbb, by simp [Res.excl, hro], by simp [Res.excl, lst]⟩)
 ·simp only [Den]
  exact ⟨Env.set_same _ _ _, hv'⟩
end
end Go.SX
namespace Go.SX
noncomputable section
def fitA : LK → AV → Bool
 | .int k, .int j _ => IntKind.same k j
 | .str, .str _ => true
 | .bool, .bool _ => true
 | _, _ => false
def fitAs : List LK → List AV → Bool
 | [], [] => true
 | k :: l, v :: m => fitA k v && fitAs l m
 | _, _ => false
def eqA1 : AV → AV → Bool
 | .int _ a, .int _ b => decide (a = b)
 | .str a, .str b => eqB a b
 | .bool a, .bool b => a == b
 | _, _ => false
def eqAs : List AV → List AV → Bool
 | [], [] => true
 | v :: l, u :: m => eqA1 v u && eqAs l m
 | _, _ => false
theorem fitA_ok {env : Env} {k : LK} {v : AV} {x : Value} (h : fitA k v = true) (hd : Den env v x) : k.fits x := by
 cases k <;> cases v <;> simp only [fitA] at h <;> (try (cases h; done)) <;> simp only [Den] at hd <;> subst hd
 ·rw [IntKind.same_eq h]; exact ⟨_, rfl⟩
 ·exact ⟨_, rfl⟩
 ·exact ⟨_, rfl⟩
theorem fitAs_ok {env : Env} : ∀ {ks : List LK} {l : List AV} {xs : List Value}, fitAs ks l = true → Dens env l xs → LKs ks xs
 | [], [], _, _, hd => by simp only [Dens] at hd; exact hd
 | [], _ :: _, _, h, _ => by simp [fitAs] at h
 | _ :: _, [], _, h, _ => by simp [fitAs] at h
 | k :: ks, v :: l, xs, h, hd => by
  simp only [fitAs, Bool.and_eq_true] at h
  simp only [Dens] at hd
  obtain ⟨y, ys, h1, h2, h3⟩ := hd
  exact ⟨y, ys, h1, fitA_ok h.1 h2, fitAs_ok h.2 h3⟩
theorem eqA1_ok {env : Env} {k : LK} {v u : AV} {x y : Value} (h : fitA k v = true) (h' : fitA k u = true) (hd : Den env v x) (hd' : Den env u y) : eqC x y = eqA1 v u := by
 cases k <;> cases v <;> simp only [fitA] at h <;> (try (cases h; done)) <;> cases u <;> simp only [fitA] at h' <;> (try (cases h'; done)) <;> simp only [Den] at hd hd' <;> subst hd <;> subst hd' <;> first | rfl | exact (eqB_eq _ _).symm
theorem eqAs_ok {env : Env} : ∀ {ks : List LK} {l m : List AV} {xs ys : List Value}, fitAs ks l = true → fitAs ks m = true → Dens env l xs → Dens env m ys → eqCs xs ys = eqAs l m
 | [], [], [], _, _, _, _, hd, hd' => by simp only [Dens] at hd hd'; subst hd; subst hd'; rfl
 | [], _ :: _, _, _, _, h, _, _, _ => by simp [fitAs] at h
 | [], [], _ :: _, _, _, _, h, _, _ => by simp [fitAs] at h
 | _ :: _, [], _, _, _, h, _, _, _ => by simp [fitAs] at h
 | _ :: _, _ :: _, [], _, _, _, h, _, _ => by simp [fitAs] at h
 | k :: ks, v :: l, u :: m, xs, ys, h, h', hd, hd' => by
  simp only [fitAs, Bool.and_eq_true] at h h'
  simp only [Dens] at hd hd'
  obtain ⟨y, t, h1, h2, h3⟩ := hd
  obtain ⟨y', t', h1', h2', h3'⟩ := hd'
  subst h1; subst h1'
  simp only [eqCs, eqAs]
  rw [eqA1_ok h.1 h'.1 h2 h2', eqAs_ok h.2 h'.2 h3 h3']
def bndA (dflt : Nat) : Option AV → Option Int
 | none => some dflt
 | some (.int _ n) => some n
 | some _ => none
def offA (cap lo off sz : Nat) : Nat := match Nat.beq cap lo with | true => off | false => off + lo * sz
def nilEq (x : AV) (y : AV) : Option Bool :=
 match x, y with
 | .nils, .nils => some true
 | .slc _ _ _ _, .nils => some false
 | .sl _ (_ + 1), .nils => some false
 | .nilm, .nilm => some true
 | .nilf, .nilf => some true
 | .fn _ _ _, .nilf => some false
 | _, _ => none
def aOp2 (T : Tab) (fr : Fr) : Op → E
 | .indexAddr t x i => match kindOf T t, ev fr x, ev fr i with
  | .slice e, some (.slc h off len _), some (.int _ n) => match T e with
   | some ⟨_, sz, _, _⟩ => .ob (0 ≤ n ∧ n < len) inferInstance (.ptr h (off + n.toNat * sz))
   | none => .no
  | _, _, _ => .no
 | .slice t x lo hi none => match kindOf T t, ev fr x, evo fr lo, evo fr hi with
  | .slice e, some (.slc h off len cap), some l, some u => match T e, bndA 0 l, bndA len u with
   | some ⟨_, sz, _, _⟩, some a, some b => .ob (0 ≤ a ∧ a ≤ b ∧ b ≤ cap) inferInstance (.slc h (offA cap a.toNat off sz) (b.toNat - a.toNat) (cap - a.toNat))
   | _, _, _ => .no
  | .ptr ar, some (.ptr h off), some l, some u => match kindOf T ar with
   | .arr m e => match T e, bndA 0 l, bndA m u with
    | some ⟨_, sz, _, _⟩, some a, some b => .ob (0 ≤ a ∧ a ≤ b ∧ b ≤ m) inferInstance (.slc h (offA m a.toNat off sz) (b.toNat - a.toNat) (m - a.toNat))
    | _, _, _ => .no
   | _ => .no
  | .arr m e, some (.ptr h off), some l, some u => match T e, bndA 0 l, bndA m u with
   | some ⟨_, sz, _, _⟩, some a, some b => .ob (0 ≤ a ∧ a ≤ b ∧ b ≤ m) inferInstance (.slc h (offA m a.toNat off sz) (b.toNat - a.toNat) (m - a.toNat))
   | _, _, _ => .no
  | _, _, _, _ => .no
 | .unOp .xor _ x => match ev fr x with
  | some (.int k n) => .val (.int k (ibit .xor k (if k.signed then -1 else k.max) n))
  | _ => .no
 | .call { callee := .builtin .len, args := xs, argTypes := ts } => match xs.toList, ts.toList with
  | [x], [t] => match kindOf T t, ev fr x with
   | .slice _, some (.slc _ _ n _) => .val (.int .i64 n)
   | .map _ _ _, some .nilm => .val (.int .i64 0)
   | _, _ => .no
  | _, _ => .no
 | .call { callee := .builtin .cap, args := xs, argTypes := ts } => match xs.toList, ts.toList with
  | [x], [t] => match kindOf T t, ev fr x with
   | .slice _, some (.slc _ _ _ n) => .val (.int .i64 n)
   | .slice _, some .nils => .val (.int .i64 0)
   | _, _ => .no
  | _, _ => .no
 | .binOp .eql t x y _ => match kindOf T t, ev fr x, ev fr y with
  | .struct _ (k :: fl) _, some (.agg l), some (.agg m) => match fitAs (k :: fl) l && fitAs (k :: fl) m with
   | true => .val (.bool (eqAs l m))
   | false => .no
  | _, _, _ => .no
 | .binOp .neq t x y _ => match kindOf T t, ev fr x, ev fr y with
  | .struct _ (k :: fl) _, some (.agg l), some (.agg m) => match fitAs (k :: fl) l && fitAs (k :: fl) m with
   | true => .val (.bool (!eqAs l m))
   | false => .no
  | _, _, _ => .no
 | _ => .no
theorem kindOf_row {T : Tab} {t : Nat} {k : TK} (h : kindOf T t = k) (hk : k ≠ .other) : ∃ ag sz z, T t = some ⟨ag, sz, z, k⟩ := by
 unfold kindOf at h
 split at h
 ·rename_i ag sz z k' hr; subst h; exact ⟨_, _, _, hr⟩
 ·exact absurd h.symm hk
theorem bnd_ok {env : Env} {P : Program} {w : World} {d : Nat} {l : Option AV} {lv : Option Value} {a : Int} (h : bndA d l = some a) (hl : ∀ x, l = some x → ∃ y, lv = some y ∧ Den env x y) (hln : l = none → lv = none) :
  (lv = none ∧ a = d) ∨ ∃ k, lv = some (.int k a) := by
 have _ := P
 have _ := w
 unfold bndA at h
 split at h
 ·cases h; exact .inl ⟨hln rfl, rfl⟩
 ·cases h
  obtain ⟨y, rfl, hd⟩ := hl _ rfl
  simp only [Den] at hd; subst hd
  exact .inr ⟨_, rfl⟩
 ·cases h
theorem bounds_ok {P : Program} {w : World} {isS : Bool} {len cap : Nat} {lv hv : Option Value} {a b : Int} (ha : (lv = none ∧ a = (0 : Nat)) ∨ ∃ k, lv = some (.int k a)) (hb : (hv = none ∧ b = len) ∨ ∃ k, hv = some (.int k b))
  (h1 : 0 ≤ a) (h2 : a ≤ b) (h3 : b ≤ cap) : (Instr.sliceBounds isS len cap lv hv none).run P w = .ok (a.toNat, b.toNat, cap) w := by
 have e1 : a ≤ (b.toNat : Int) := by omega
 have e2 : 0 ≤ b := by omega
 have sb : ∀ {k : IntKind} {n : Int} {y : Nat} {c : BoundsCode}, 0 ≤ n → n ≤ y → (Instr.sliceBound (.int k n) y c).run P w = .ok n.toNat w := by
  intro k n y c h1 h2
  simp [Instr.sliceBound, asIntOf, h1, h2]
 unfold Instr.sliceBounds
 rcases ha with ⟨rfl, rfl⟩ | ⟨k, rfl⟩ <;> rcases hb with ⟨rfl, rfl⟩ | ⟨k', rfl⟩
 ·simp
 ·simp [sb e2 h3]
 ·have := sb (k := k) (c := .sliceB) h1 h2
  simp [this]
 ·have := sb (k := k) (c := .sliceB) h1 e1
  simp [sb e2 h3, this]
theorem aOp2_ok {P : Program} {T : Tab} (hT : TabOK P T) {fr : Fr} {o : Oper} {v : AV} (h : (aOp2 T fr o.op).Holds v) {env : Env} {a : Act} {w : World} (hn : Need env o fr a) :
  ∃ x, (execOp a.eval o).run P w = .ok (.value x) w ∧ Den env v x := by
 obtain ⟨dst, op, ty, pos, after, guard⟩ := o
 have hev : ∀ {x : Operand} {u : AV}, x ∈ op.operands → ev fr x = some u → Den env u (a.eval x) := fun hx he => ev_den hn hx he
 cases op <;> (try (exact h.elim))
 case indexAddr t x i =>
  simp only [aOp2] at h
  split at h
  ·rename_i e hh off len cap k n hk hx hi
   split at h
   ·rename_i ag sz z k' hre
    simp only [E.Holds] at h
    obtain ⟨⟨g1, g2⟩, rfl⟩ := h
    obtain ⟨d, h4, rfl⟩ := kind_run hT hk (by simp) w
    have hse := (row_info hT hre w).1
    have d1 := hev (by simp [Op.operands]) hx
    have d2 := hev (by simp [Op.operands]) hi
    simp only [Den] at d1 d2
    obtain ⟨b, hb, hx⟩ := d1
    refine ⟨.pointer (some ⟨b, off + n.toNat * sz, none⟩), ?_, by simp only [Den]; exact ⟨b, hb, rfl⟩⟩
    simp [execOp, Instr.indexAt, asIntOf, d2, h4, hx, g1, g2, hse, addr_add]
   ·exact h.elim
  ·exact h.elim
 case slice t x lo hi mx =>
  cases mx with
  | some m => exact h.elim
  | none =>
   simp only [aOp2] at h
   split at h
   ·rename_i e hh off len cap l u hk hx hl hu
    split at h
    ·rename_i ag sz z k' a1 b1 hre hb1 hb2
     simp only [E.Holds] at h
     obtain ⟨⟨g1, g2, g3⟩, rfl⟩ := h
     obtain ⟨d, h4, h5⟩ := kindOf_ok hT hk (by simp)
     simp only [KindOK] at h5; subst h5
     have hse := (row_info hT hre w).1
     have d1 := hev (by simp [Op.operands]) hx
     simp only [Den] at d1
     obtain ⟨b, hb, hx⟩ := d1
     have k1 := evo_den hn (by intro y hy; subst hy; simp [Op.operands]) hl
     have k2 := evo_den hn (by intro y hy; subst hy; simp [Op.operands]) hu
     have hbd := bounds_ok (P := P) (w := w) (isS := true) (bnd_ok (P := P) (w := w) hb1 k1.1 k1.2) (bnd_ok (P := P) (w := w) hb2 k2.1 k2.2) g1 g2 g3
     refine ⟨.slice (some ⟨b, offA cap a1.toNat off sz, none⟩) (b1.toNat - a1.toNat) (cap - a1.toNat), ?_, by simp only [Den]; exact ⟨b, hb, rfl⟩⟩
     unfold offA
     simp only [execOp, Instr.sliceAt, Instr.slice, Sem.run_bind, run_underlying h4, Result.andThen_ok, hx, Option.map_none, hbd, hse, Sem.run_pure]
     by_cases e : cap = a1.toNat
     ·simp [e, Nat.beq_refl]
     ·have : Nat.beq cap a1.toNat = false := by
       cases hb : Nat.beq cap a1.toNat with
       | false => rfl
       | true => exact absurd (Nat.eq_of_beq_eq_true hb) e
      simp [e, this, addr_add]
    ·exact h.elim
   ·rename_i ar hh off l u hk hx hl hu
    split at h
    ·rename_i m e hka
     split at h
     ·rename_i ag sz z k' a1 b1 hre hb1 hb2
      simp only [E.Holds] at h
      obtain ⟨⟨g1, g2, g3⟩, rfl⟩ := h
      obtain ⟨d, h4, h5⟩ := kindOf_ok hT hk (by simp)
      simp only [KindOK] at h5
      obtain ⟨_, rfl, _, _⟩ := h5
      obtain ⟨d2, h6, h7⟩ := kindOf_ok hT hka (by simp)
      simp only [KindOK] at h7; subst h7
      have hse := (row_info hT hre w).1
      have d1 := hev (by simp [Op.operands]) hx
      simp only [Den] at d1
      obtain ⟨b, hb, hx⟩ := d1
      have k1 := evo_den hn (by intro y hy; subst hy; simp [Op.operands]) hl
      have k2 := evo_den hn (by intro y hy; subst hy; simp [Op.operands]) hu
      have hbd := bounds_ok (P := P) (w := w) (isS := false) (bnd_ok (P := P) (w := w) hb1 k1.1 k1.2) (bnd_ok (P := P) (w := w) hb2 k2.1 k2.2) g1 g2 g3
      refine ⟨.slice (some ⟨b, offA m a1.toNat off sz, none⟩) (b1.toNat - a1.toNat) (m - a1.toNat), ?_, by simp only [Den]; exact ⟨b, hb, rfl⟩⟩
      unfold offA
      simp only [execOp, Instr.sliceAt, Instr.slice, Instr.sureAddr, asAddr, Sem.run_bind, run_underlying h4, run_underlying h6, Result.andThen_ok, hx, Option.map_none, hbd, hse, Sem.run_pure]
      by_cases e : m = a1.toNat
      ·simp [e, Nat.beq_refl]
      ·have : Nat.beq m a1.toNat = false := by
        cases hb : Nat.beq m a1.toNat with
        | false => rfl
        | true => exact absurd (Nat.eq_of_beq_eq_true hb) e
       simp [e, this, addr_add]
     ·exact h.elim
    ·exact h.elim
   ·rename_i m e hh off l u hk hx hl hu
    split at h
    ·rename_i ag sz z k' a1 b1 hre hb1 hb2
     simp only [E.Holds] at h
     obtain ⟨⟨g1, g2, g3⟩, rfl⟩ := h
     obtain ⟨d2, h6, h7⟩ := kindOf_ok hT hk (by simp)
     simp only [KindOK] at h7; subst h7
     have hse := (row_info hT hre w).1
     have d1 := hev (by simp [Op.operands]) hx
     simp only [Den] at d1
     obtain ⟨b, hb, hx⟩ := d1
     have k1 := evo_den hn (by intro y hy; subst hy; simp [Op.operands]) hl
     have k2 := evo_den hn (by intro y hy; subst hy; simp [Op.operands]) hu
     have hbd := bounds_ok (P := P) (w := w) (isS := false) (bnd_ok (P := P) (w := w) hb1 k1.1 k1.2) (bnd_ok (P := P) (w := w) hb2 k2.1 k2.2) g1 g2 g3
     refine ⟨.slice (some ⟨b, offA m a1.toNat off sz, none⟩) (b1.toNat - a1.toNat) (m - a1.toNat), ?_, by simp only [Den]; exact ⟨b, hb, rfl⟩⟩
     unfold offA
     simp only [execOp, Instr.sliceAt, Instr.sureAddr, Sem.run_bind, run_underlying h6, Result.andThen_ok, hx, Option.map_none, hbd, hse, Sem.run_pure]
     by_cases e : m = a1.toNat
     ·simp [e, Nat.beq_refl]
     ·have : Nat.beq m a1.toNat = false := by
       cases hb : Nat.beq m a1.toNat with
       | false => rfl
       | true => exact absurd (Nat.eq_of_beq_eq_true hb) e
      simp [e, this, addr_add]
    ·exact h.elim
   ·exact h.elim
 case binOp op t x y yt =>
  have main : ∀ {fs : List (Nat × Nat)} {k : LK} {fl : List LK} {ag : List Bool} {l m : List AV}, kindOf T t = .struct fs (k :: fl) ag → ev fr x = some (.agg l) → ev fr y = some (.agg m) → (fitAs (k :: fl) l && fitAs (k :: fl) m) = true →
    ∃ xs ys, a.eval x = .agg xs ∧ a.eval y = .agg ys ∧ (Op.equalIn 10000 t (.agg xs) (.agg ys)).run P w = .ok (eqAs l m) w ∧ ∀ o2, (eqGuard o2 t x y (.agg xs) (.agg ys)).run P w = .ok () w := by
   intro fs k fl ag0 l m hk hx hy hf
   simp only [Bool.and_eq_true] at hf
   have d1 := hev (by simp [Op.operands]) hx
   have d2 := hev (by simp [Op.operands]) hy
   simp only [Den] at d1 d2
   obtain ⟨xs, e1, d1⟩ := d1
   obtain ⟨ys, e2, d2⟩ := d2
   obtain ⟨ag, sz, z, hrow⟩ := kindOf_row hk (by simp)
   obtain ⟨_, ⟨d, h4, h5, h6⟩, h7⟩ := hT _ _ hrow
   obtain ⟨f1, f2⟩ := h7 fs k fl _ rfl
   simp only [KindOK] at h6
   obtain ⟨fields, rfl, _⟩ := h6
   refine ⟨xs, ys, e1, e2, ?_, fun o2 => run_eqGuard_agg w o2 t x y xs ys f2⟩
   have := equalIn_fit (P := P) (d := 100) (D := 10000) (w := w) (by omega) f1 (.inr ⟨xs, fields, rfl, h4, fitAs_ok hf.1 d1⟩) (.inr ⟨ys, fields, rfl, h4, fitAs_ok hf.2 d2⟩)
   rw [this]
   simp only [Value.cells]
   rw [eqAs_ok hf.1 hf.2 d1 d2]
  cases op <;> (try (exact h.elim))
  case eql =>
   simp only [aOp2] at h
   split at h
   ·rename_i fs k fl ag0 l m hk hx hy
    split at h
    ·rename_i hf
     simp only [E.Holds] at h; subst h
     obtain ⟨xs, ys, e1, e2, e3, e4⟩ := main hk hx hy hf
     refine ⟨.bool (eqAs l m), ?_, by simp [Den]⟩
     simp only [execOp, e1, e2, Sem.run_bind, e4, Result.andThen_ok, run_eql_struct, e3, Sem.run_pure]
    ·exact h.elim
   ·exact h.elim
  case neq =>
   simp only [aOp2] at h
   split at h
   ·rename_i fs k fl ag0 l m hk hx hy
    split at h
    ·rename_i hf
     simp only [E.Holds] at h; subst h
     obtain ⟨xs, ys, e1, e2, e3, e4⟩ := main hk hx hy hf
     refine ⟨.bool (!eqAs l m), ?_, by simp [Den]⟩
     simp only [execOp, e1, e2, Sem.run_bind, e4, Result.andThen_ok, run_neq_struct, e3, Sem.run_pure]
    ·exact h.elim
   ·exact h.elim
 case unOp op t x =>
  cases op <;> (try (exact h.elim))
  case xor =>
   simp only [aOp2] at h
   split at h
   ·rename_i k n hx
    simp only [E.Holds] at h; subst h
    have d1 := hev (by simp [Op.operands]) hx
    simp only [Den] at d1
    exact ⟨_, by simp [execOp, d1, Op.unary, Op.intBits]; rfl, by simp [Den, ibit]⟩
   ·exact h.elim
 case call c =>
  obtain ⟨cal, xs, ts⟩ := c
  cases cal with
  | value f => exact h.elim
  | invoke r m => exact h.elim
  | builtin b =>
   have ops : ∀ x ∈ xs.toList, x ∈ (Op.call { callee := .builtin b, args := xs, argTypes := ts }).operands := by
    intro x hx; simp only [Op.operands, Call.operands]; simpa using hx
   cases b <;> (try (exact h.elim))
   case len =>
    simp only [aOp2] at h
    split at h
    ·rename_i x t hxs hts
     have hx1 : xs = #[x] := by apply Array.ext'; simpa using hxs
     have ht1 : ts = #[t] := by apply Array.ext'; simpa using hts
     subst hx1; subst ht1
     split at h <;> (try (exact h.elim)) <;> simp only [E.Holds] at h <;> subst h
     ·rename_i e hh off n cap hk he
      obtain ⟨d, h4, rfl⟩ := kind_run hT hk (by simp) w
      have d1 := hev (ops x (by simp)) he
      simp only [Den] at d1
      obtain ⟨b, _, d1⟩ := d1
      exact ⟨.int .i64 n, by simp [execOp, resolve, invoke, builtin, Builtin.len_, d1, h4, goInt], by simp [Den]⟩
     ·rename_i k e fl hk he
      obtain ⟨d, h4, rfl, _⟩ := kind_run hT hk (by simp) w
      have d1 := hev (ops x (by simp)) he
      simp only [Den] at d1
      exact ⟨.int .i64 0, by simp [execOp, resolve, invoke, builtin, Builtin.len_, d1, h4, goInt], by simp [Den]⟩
    ·exact h.elim
   case cap =>
    simp only [aOp2] at h
    split at h
    ·rename_i x t hxs hts
     have hx1 : xs = #[x] := by apply Array.ext'; simpa using hxs
     have ht1 : ts = #[t] := by apply Array.ext'; simpa using hts
     subst hx1; subst ht1
     split at h <;> (try (exact h.elim)) <;> simp only [E.Holds] at h <;> subst h
     ·rename_i e hh off n cap hk he
      obtain ⟨d, h4, rfl⟩ := kind_run hT hk (by simp) w
      have d1 := hev (ops x (by simp)) he
      simp only [Den] at d1
      obtain ⟨b, _, d1⟩ := d1
      exact ⟨.int .i64 cap, by simp [execOp, resolve, invoke, builtin, Builtin.cap_, d1, h4, goInt], by simp [Den]⟩
     ·rename_i e hk he
      obtain ⟨d, h4, rfl⟩ := kind_run hT hk (by simp) w
      have d1 := hev (ops x (by simp)) he
      simp only [Den] at d1
      exact ⟨.int .i64 0, by simp [execOp, resolve, invoke, builtin, Builtin.cap_, d1, h4, goInt], by simp [Den]⟩
    ·exact h.elim
end
end Go.SX
namespace Go.SX
noncomputable section
def nilS : AV → Option Bool
 | .nils => some true
 | .sv _ _ _ _ _ => some false
 | .slc _ _ _ _ => some false
 | .sl _ (_ + 1) => some false
 | _ => none
theorem nilS_ok {env : Env} {x : AV} {b : Bool} {y : Value} (h : nilS x = some b) (hd : Den env x y) : ∃ p l c, y = .slice p l c ∧ b = p.isNone := by
 unfold nilS at h
 split at h <;> cases h
 ·simp only [Den] at hd; exact ⟨_, _, _, hd, rfl⟩
 ·simp only [Den] at hd; obtain ⟨_, _, _, _, _, _, _, h, _⟩ := hd; exact ⟨_, _, _, h, rfl⟩
 ·simp only [Den] at hd; obtain ⟨_, _, h⟩ := hd; exact ⟨_, _, _, h, rfl⟩
 ·simp only [Den] at hd
  obtain ⟨_, p, c, h, h2⟩ := hd
  obtain ⟨b, o, rfl⟩ := h2 (by omega)
  exact ⟨_, _, _, h, rfl⟩
def capE : Option Nat → Nat → Nat
 | none, len => len
 | some c, _ => c
def capSub : Option Nat → Nat → Option Nat
 | none, _ => none
 | some c, a => some (c - a)
def capM (m : Option AV) (c : Option Nat) (a mm : Int) : Option Nat :=
 match m with
 | none => capSub c a.toNat
 | some _ => some (mm.toNat - a.toNat)
def mxE (m : Option AV) (cap : Nat) (mm : Int) : Nat :=
 match m with
 | none => cap
 | some _ => mm.toNat
def szOf (T : Tab) (e : Nat) : Option Nat := match T e with | some ⟨_, sz, _, _⟩ => some sz | none => none
def aEqS (T : Tab) (fr : Fr) (t : Nat) (x y : Operand) (neg : Bool) : E :=
 match kindOf T t, ev fr x, ev fr y with
 | .slice _, some v, some .nils => match nilS v with
  | some b => .val (.bool (match neg with | true => !b | false => b))
  | none => .no
 | _, _, _ => .no
def b3A (len cap : Nat) (l u m : Option AV) : Option (Int × Int × Int) :=
 match m with
 | none => match bndA 0 l, bndA len u with
  | some a, some b => some (a, b, cap)
  | _, _ => none
 | some mv => match u with
  | none => none
  | some uv => match bndA 0 l, bndA len (some uv), bndA cap (some mv) with
   | some a, some b, some c => some (a, b, c)
   | _, _, _ => none
def aOp3 (T : Tab) (fr : Fr) : Op → E
 | .index t x i => match kindOf T t, ev fr x, ev fr i with
  | .arr m e, some (.agg l), some (.int _ n) => match T e with
   | some ⟨false, 1, _, _⟩ => match nth l n.toNat with
    | some v => .ob (0 ≤ n ∧ n < m) inferInstance v
    | none => .no
   | some ⟨true, z, _, _⟩ => .ob (0 ≤ n ∧ n < m) inferInstance (.agg ((l.drop (n.toNat * z)).take z))
   | _ => .no
  | _, _, _ => .no
 | .indexAddr t x i => match kindOf T t, ev fr x, ev fr i with
  | .slice e, some (.sv h z i0 len _), some (.int _ n) => match szOf T e with
   | some sz => match Nat.beq sz z with
    | true => .ob (0 ≤ n ∧ n < len) inferInstance (.el h z (i0 + n.toNat) 0)
    | false => .no
   | none => .no
  | _, _, _ => .no
 | .slice t x lo hi mx => match kindOf T t, ev fr x, evo fr lo, evo fr hi, evo fr mx with
  | .slice e, some (.sv h z i0 len c), some l, some u, some m => match szOf T e, b3A len (capE c len) l u m with
   | some sz, some (a, b, mm) => match Nat.beq sz z with
    | true => .ob (0 ≤ a ∧ a ≤ b ∧ b ≤ mm ∧ mm ≤ capE c len) inferInstance (.sv h z (i0 + a.toNat) (b.toNat - a.toNat) (capM m c a mm))
    | false => .no
   | _, _ => .no
  | .slice e, some (.slc h off len cap), some l, some u, some (some mv) => match szOf T e, b3A len cap l u (some mv) with
   | some sz, some (a, b, mm) => .ob (0 ≤ a ∧ a ≤ b ∧ b ≤ mm ∧ mm ≤ cap) inferInstance (.slc h (offA mm.toNat a.toNat off sz) (b.toNat - a.toNat) (mm.toNat - a.toNat))
   | _, _ => .no
  | .slice e, some .nils, some l, some u, some m => match szOf T e, b3A 0 0 l u m with
   | some _, some (a, b, mm) => .ob (0 ≤ a ∧ a ≤ b ∧ b ≤ mm ∧ mm ≤ 0) inferInstance .nils
   | _, _ => .no
  | _, _, _, _, _ => .no
 | .call { callee := .builtin .len, args := xs, argTypes := ts } => match xs.toList, ts.toList with
  | [x], [t] => match kindOf T t, ev fr x with
   | .slice _, some (.sv _ _ _ n _) => .val (.int .i64 n)
   | _, _ => .no
  | _, _ => .no
 | .call { callee := .builtin .cap, args := xs, argTypes := ts } => match xs.toList, ts.toList with
  | [x], [t] => match kindOf T t, ev fr x with
   | .slice _, some (.sv _ _ _ _ (some n)) => .val (.int .i64 n)
   | _, _ => .no
  | _, _ => .no
 | .binOp .eql t x y _ => aEqS T fr t x y false
 | .binOp .neq t x y _ => aEqS T fr t x y true
 | _ => .no
theorem szOf_ok {P : Program} {T : Tab} (hT : TabOK P T) {e sz : Nat} (h : szOf T e = some sz) (w : World) : (sizeOf e).run P w = .ok sz w := by
 unfold szOf at h
 split at h
 ·rename_i ag s z k hr
  cases h
  exact (row_info hT hr w).1
 ·cases h
theorem bounds3_ok {P : Program} {w : World} {len cap0 cap : Nat} {l u m : Option AV} {lv uv mv : Option Value} {a b mm : Int} {env : Env} (h : b3A len cap0 l u m = some (a, b, mm))
  (hl : ∀ x, l = some x → ∃ y, lv = some y ∧ Den env x y) (hln : l = none → lv = none) (hu : ∀ x, u = some x → ∃ y, uv = some y ∧ Den env x y) (hun : u = none → uv = none) (hm : ∀ x, m = some x → ∃ y, mv = some y ∧ Den env x y) (hmn : m = none → mv = none)
  (h1 : 0 ≤ a) (h2 : a ≤ b) (h3 : b ≤ mm) (h4 : mm ≤ cap0) (h5 : cap0 ≤ cap) : (Instr.sliceBounds true len cap lv uv mv).run P w = .ok (a.toNat, b.toNat, mxE m cap mm) w := by
 have bnd : ∀ {d : Nat} {x : Option AV} {xv : Option Value} {k : Int}, bndA d x = some k → (∀ y, x = some y → ∃ v, xv = some v ∧ Den env y v) → (x = none → xv = none) → (xv = none ∧ x = none ∧ k = d) ∨ ∃ q, xv = some (.int q k) := by
  intro d x xv k hb hx hxn
  unfold bndA at hb
  split at hb
  ·cases hb; exact .inl ⟨hxn rfl, rfl, rfl⟩
  ·cases hb
   obtain ⟨v, rfl, hv⟩ := hx _ rfl
   simp only [Den] at hv; subst hv
   exact .inr ⟨_, rfl⟩
  ·cases hb
 have sb : ∀ {q : IntKind} {k : Int} {y : Nat} {c : BoundsCode}, 0 ≤ k → k ≤ y → (Instr.sliceBound (.int q k) y c).run P w = .ok k.toNat w := by
  intro q k y c g1 g2
  simp [Instr.sliceBound, asIntOf, g1, g2]
 cases m with
 | none =>
  have hmv := hmn rfl
  subst hmv
  simp only [b3A] at h
  simp only [mxE]
  split at h
  ·rename_i a' b' ha hb
   simp only [Option.some.injEq, Prod.mk.injEq] at h
   obtain ⟨rfl, rfl, rfl⟩ := h
   rcases bnd ha hl hln with ⟨rfl, _, e1⟩ | ⟨q1, rfl⟩ <;> rcases bnd hb hu hun with ⟨rfl, _, e2⟩ | ⟨q2, rfl⟩
   ·subst e1; subst e2; simp [Instr.sliceBounds]
   ·subst e1
    simp only [Instr.sliceBounds, Sem.run_bind, Sem.run_pure, Result.andThen_ok]
    rw [sb (by omega) (by omega)]; rfl
   ·subst e2
    simp only [Instr.sliceBounds, Sem.run_bind, Sem.run_pure, Result.andThen_ok]
    rw [sb h1 (by omega)]; simp
   ·simp only [Instr.sliceBounds, Sem.run_bind, Sem.run_pure, Result.andThen_ok]
    rw [sb (by omega) (by omega)]
    simp only [Result.andThen_ok]
    rw [sb h1 (by omega)]; rfl
  ·cases h
 | some mvA =>
  cases u with
  | none => simp only [b3A] at h; cases h
  | some uA =>
   simp only [b3A] at h
   simp only [mxE]
   split at h
   ·rename_i a' b' c' ha hb hc
    simp only [Option.some.injEq, Prod.mk.injEq] at h
    obtain ⟨rfl, rfl, rfl⟩ := h
    obtain ⟨_, hcn, _⟩ | ⟨q3, rfl⟩ := bnd hc hm hmn
    ·cases hcn
    obtain ⟨_, hbn, _⟩ | ⟨q2, rfl⟩ := bnd hb hu hun
    ·cases hbn
    rcases bnd ha hl hln with ⟨rfl, _, e1⟩ | ⟨q1, rfl⟩
    ·subst e1
     simp only [Instr.sliceBounds, Sem.run_bind, Sem.run_pure, Result.andThen_ok]
     rw [sb (by omega) (by omega)]
     simp only [Result.andThen_ok]
     rw [sb (by omega) (by omega)]; rfl
    ·simp only [Instr.sliceBounds, Sem.run_bind, Sem.run_pure]
     rw [sb (by omega) (by omega)]
     simp only [Result.andThen_ok]
     rw [sb (by omega) (by omega)]
     simp only [Result.andThen_ok]
     rw [sb h1 (by omega)]; simp
   ·cases h
theorem run_equalIn_slice' {P : Program} {w : World} {d t e : Nat} {p : Option Addr} {l c : Nat} (h : P.underlying t = some (.slice e)) : (Op.equalIn (d + 1) t (.slice p l c) (.slice none 0 0)).run P w = .ok p.isNone w := by
 cases p <;> simp [Op.equalIn, run_underlying h]
theorem run_equal_slice {P : Program} {w : World} {t e : Nat} {p : Option Addr} {l c : Nat} (h : P.underlying t = some (.slice e)) : (Op.equal t (.slice p l c) (.slice none 0 0)).run P w = .ok p.isNone w :=
 run_equalIn_slice' (d := 9999) h
theorem aOp3_ok {P : Program} {T : Tab} (hT : TabOK P T) {fr : Fr} {o : Oper} {v : AV} (h : (aOp3 T fr o.op).Holds v) {env : Env} {a : Act} {w : World} (hn : Need env o fr a) :
  ∃ x, (execOp a.eval o).run P w = .ok (.value x) w ∧ Den env v x := by
 obtain ⟨dst, op, ty, pos, after, guard⟩ := o
 have hev : ∀ {x : Operand} {u : AV}, x ∈ op.operands → ev fr x = some u → Den env u (a.eval x) := fun hx he => ev_den hn hx he
 cases op <;> (try (exact h.elim))
 case index t x i =>
  simp only [aOp3] at h
  split at h
  ·rename_i m e l k n hk hx hi
   split at h
   ·rename_i zz kk hre
    split at h
    ·rename_i u hu
     simp only [E.Holds] at h
     obtain ⟨⟨g1, g2⟩, rfl⟩ := h
     obtain ⟨d, h4, h5⟩ := kindOf_ok hT hk (by simp)
     simp only [KindOK] at h5; subst h5
     have d1 := hev (by simp [Op.operands]) hx
     have d2 := hev (by simp [Op.operands]) hi
     simp only [Den] at d1 d2
     obtain ⟨xs, q1, q2⟩ := d1
     obtain ⟨r1, _, _, r4⟩ := row_info hT hre w
     rw [nth_eq] at hu
     obtain ⟨y, hy1, hy2⟩ := (dens_iff.1 q2).2 _ _ hu
     refine ⟨y, ?_, hy2⟩
     have hy3 : xs[n.toNat]? = some y := by simpa using hy1
     simp [execOp, Instr.index, asIntOf, d2, run_underlying h4, q1, g1, g2, r1, part, r4, hy3]
    ·exact h.elim
   ·rename_i sz zz kk hre
    simp only [E.Holds] at h
    obtain ⟨⟨g1, g2⟩, rfl⟩ := h
    obtain ⟨d, h4, h5⟩ := kindOf_ok hT hk (by simp)
    simp only [KindOK] at h5; subst h5
    have d1 := hev (by simp [Op.operands]) hx
    have d2 := hev (by simp [Op.operands]) hi
    simp only [Den] at d1 d2
    obtain ⟨xs, q1, q2⟩ := d1
    obtain ⟨r1, _, _, r4⟩ := row_info hT hre w
    refine ⟨.agg (xs.extract (n.toNat * sz) (n.toNat * sz + sz)), ?_, ?_⟩
    ·simp [execOp, Instr.index, asIntOf, d2, run_underlying h4, q1, g1, g2, r1, part, r4]
    ·simp only [Den]
     refine ⟨_, rfl, ?_⟩
     have := (q2.drop (n.toNat * sz)).take sz
     simpa [Array.toList_extract, List.extract_eq_take_drop] using this
   ·exact h.elim
  ·exact h.elim
 case indexAddr t x i =>
  simp only [aOp3] at h
  split at h
  ·rename_i e hh z i0 len c k n hk hx hi
   split at h
   ·rename_i sz hre
    split at h
    ·rename_i hsz
     have hsz := Nat.eq_of_beq_eq_true hsz
     subst hsz
     simp only [E.Holds] at h
     obtain ⟨⟨g1, g2⟩, rfl⟩ := h
     obtain ⟨d, h4, rfl⟩ := kind_run hT hk (by simp) w
     have hse := szOf_ok hT hre w
     have d1 := hev (by simp [Op.operands]) hx
     have d2 := hev (by simp [Op.operands]) hi
     simp only [Den] at d1 d2
     obtain ⟨b, o1, m, C, p, cc, q1, q2, q3, q4, q5, q6, q7⟩ := d1
     have hpp := q7 (by omega)
     subst hpp
     refine ⟨.pointer (some ⟨b, o1 + ((i0 + n.toNat) * sz + 0), none⟩), ?_, by simp only [Den]; exact ⟨b, o1, m, C, q1, rfl⟩⟩
     have ea : o1 + i0 * sz + n.toNat * sz = o1 + ((i0 + n.toNat) * sz + 0) := by rw [Nat.add_mul]; omega
     simp [execOp, Instr.indexAt, asIntOf, d2, h4, q2, g1, g2, hse, addr_add]
     rw [Nat.add_mul]; omega
    ·exact h.elim
   ·exact h.elim
  ·exact h.elim
 case slice t x lo hi mx =>
  simp only [aOp3] at h
  split at h
  ·rename_i e hh z i0 len c l u m hk hx hl hu hm
   split at h
   ·rename_i sz a1 b1 mm hre hb3
    split at h
    ·rename_i hsz
     have hsz := Nat.eq_of_beq_eq_true hsz
     subst hsz
     simp only [E.Holds] at h
     obtain ⟨⟨g1, g2, g3, g4⟩, rfl⟩ := h
     obtain ⟨d, h4, h5⟩ := kindOf_ok hT hk (by simp)
     simp only [KindOK] at h5; subst h5
     have hse := szOf_ok hT hre w
     have d1 := hev (by simp [Op.operands]) hx
     simp only [Den] at d1
     obtain ⟨b, o1, mw, C, p, cc, q1, q2, q3, q4, q5, q6, q7⟩ := d1
     have k1 := evo_den hn (by intro y hy; subst hy; simp [Op.operands]) hl
     have k2 := evo_den hn (by intro y hy; subst hy; simp [Op.operands]) hu
     have k3 := evo_den hn (by intro y hy; subst hy; simp [Op.operands]) hm
     have hce : capE c len ≤ cc := by
      cases c with
      | none => exact q3
      | some c => simp only [capE]; rw [q6 c rfl]; exact Nat.le_refl _
     have hbd := bounds3_ok (P := P) (w := w) (cap := cc) hb3 k1.1 k1.2 k2.1 k2.2 k3.1 k3.2 g1 g2 g3 g4 hce
     generalize hM : mxE m cc mm = M at hbd
     have hMc : M ≤ cc := by
      rw [← hM]; cases m with
      | none => exact Nat.le_refl _
      | some _ => simp only [mxE]; omega
     have hMb : b1.toNat ≤ M := by
      rw [← hM]; cases m with
      | none => simp only [mxE]; omega
      | some _ => simp only [mxE]; omega
     refine ⟨.slice (some (if M = a1.toNat then p else p.add (a1.toNat * sz))) (b1.toNat - a1.toNat) (M - a1.toNat), ?_, ?_⟩
     ·simp only [execOp, Instr.sliceAt, Instr.slice, Sem.run_bind, run_underlying h4, Result.andThen_ok, q2, hbd, hse, Sem.run_pure]
      split <;> rfl
     ·simp only [Den]
      refine ⟨b, o1, mw, C, _, _, q1, rfl, by omega, by omega, ?_, ?_, ?_⟩
      ·intro hc
       cases m with
       | none =>
        simp only [mxE] at hM
        cases c with
        | none => have := q5 rfl; omega
        | some c => simp [capM, capSub] at hc
       | some _ => cases hc
      ·intro k hc
       cases m with
       | none =>
        simp only [mxE] at hM
        cases c with
        | none => simp [capM, capSub] at hc
        | some c =>
         simp only [capM, capSub, Option.some.injEq] at hc
         have := q6 c rfl; omega
       | some _ => simp only [capM, mxE, Option.some.injEq] at hM hc; omega
      ·intro hpos
       have hpp := q7 (by omega)
       subst hpp
       rw [if_neg (by omega), addr_add, Nat.add_mul, Nat.add_assoc]
    ·exact h.elim
   ·exact h.elim
  ·rename_i e hh off len cap l u mv hk hx hl hu hm
   split at h
   ·rename_i sz a1 b1 mm hre hb3
    simp only [E.Holds] at h
    obtain ⟨⟨g1, g2, g3, g4⟩, rfl⟩ := h
    obtain ⟨d, h4, h5⟩ := kindOf_ok hT hk (by simp)
    simp only [KindOK] at h5; subst h5
    have hse := szOf_ok hT hre w
    have d1 := hev (by simp [Op.operands]) hx
    simp only [Den] at d1
    obtain ⟨b, hb, q2⟩ := d1
    have k1 := evo_den hn (by intro y hy; subst hy; simp [Op.operands]) hl
    have k2 := evo_den hn (by intro y hy; subst hy; simp [Op.operands]) hu
    have k3 := evo_den hn (by intro y hy; subst hy; simp [Op.operands]) hm
    have hbd := bounds3_ok (P := P) (w := w) (cap := cap) hb3 k1.1 k1.2 k2.1 k2.2 k3.1 k3.2 g1 g2 g3 g4 (Nat.le_refl _)
    simp only [mxE] at hbd
    refine ⟨.slice (some ⟨b, offA mm.toNat a1.toNat off sz, none⟩) (b1.toNat - a1.toNat) (mm.toNat - a1.toNat), ?_, by simp only [Den]; exact ⟨b, hb, rfl⟩⟩
    unfold offA
    simp only [execOp, Instr.sliceAt, Instr.slice, Sem.run_bind, run_underlying h4, Result.andThen_ok, q2, hbd, hse, Sem.run_pure]
    by_cases e : mm.toNat = a1.toNat
    ·simp [e, Nat.beq_refl]
    ·have : Nat.beq mm.toNat a1.toNat = false := by
      cases hb : Nat.beq mm.toNat a1.toNat with
      | false => rfl
      | true => exact absurd (Nat.eq_of_beq_eq_true hb) e
     simp [e, this, addr_add]
   ·exact h.elim
  ·rename_i e l u m hk hx hl hu hm
   split at h
   ·rename_i sz a1 b1 mm hre hb3
    simp only [E.Holds] at h
    obtain ⟨⟨g1, g2, g3, g4⟩, rfl⟩ := h
    obtain ⟨d, h4, h5⟩ := kindOf_ok hT hk (by simp)
    simp only [KindOK] at h5; subst h5
    have d1 := hev (by simp [Op.operands]) hx
    simp only [Den] at d1
    have k1 := evo_den hn (by intro y hy; subst hy; simp [Op.operands]) hl
    have k2 := evo_den hn (by intro y hy; subst hy; simp [Op.operands]) hu
    have k3 := evo_den hn (by intro y hy; subst hy; simp [Op.operands]) hm
    have hbd := bounds3_ok (P := P) (w := w) (cap := 0) hb3 k1.1 k1.2 k2.1 k2.2 k3.1 k3.2 g1 g2 g3 g4 (Nat.le_refl _)
    have ha0 : a1.toNat = 0 := by omega
    have hb0 : b1.toNat = 0 := by omega
    have hm0 : mxE m 0 mm = 0 := by
     cases m with
     | none => rfl
     | some _ => simp only [mxE]; omega
    rw [ha0, hb0, hm0] at hbd
    refine ⟨.slice none 0 0, ?_, by simp only [Den]⟩
    have hn2 := szOf_ok hT hre w
    simp only [execOp, Instr.sliceAt, Instr.slice, Sem.run_bind, run_underlying h4, Result.andThen_ok, d1, hbd, hn2, Sem.run_pure]
    simp
   ·exact h.elim
  ·exact h.elim
 case binOp op t x y yt =>
  have main : ∀ {neg : Bool}, (aEqS T fr t x y neg).Holds v → ∃ b : Bool, v = .bool (xor neg b) ∧ ∃ p l c, a.eval x = .slice p l c ∧ a.eval y = .slice none 0 0 ∧ (Op.equal t (a.eval x) (a.eval y)).run P w = .ok b w := by
   intro neg h
   unfold aEqS at h
   split at h
   ·rename_i e v1 hk hx hy
    split at h
    ·rename_i b hb
     simp only [E.Holds] at h; subst h
     obtain ⟨d, h4, h5⟩ := kindOf_ok hT hk (by simp)
     simp only [KindOK] at h5; subst h5
     have d1 := hev (by simp [Op.operands]) hx
     have d2 := hev (by simp [Op.operands]) hy
     obtain ⟨p, l, c, e1, rfl⟩ := nilS_ok hb d1
     simp only [Den] at d2
     exact ⟨p.isNone, by cases neg <;> simp, p, l, c, e1, d2, by rw [e1, d2]; exact run_equal_slice h4⟩
    ·exact h.elim
   ·exact h.elim
  cases op <;> (try (exact h.elim))
  case eql =>
   obtain ⟨b, rfl, p, l, c, e1, e2, e3⟩ := main (neg := false) h
   refine ⟨.bool (xor false b), ?_, by simp only [Den]⟩
   have hg := eqGuard_ok (P := P) (w := w) (op := .eql) (t := t) (x := x) (y := y) (a := a.eval x) (b := a.eval y) (by rw [e1]; simp) (by rw [e2]; simp)
   simp only [execOp, Sem.run_bind, hg, Result.andThen_ok]
   rw [e1, e2] at e3 ⊢
   rw [binOp_eql (by simp) (by simp) (by simp) (by simp)]
   simp only [Sem.run_bind, e3, Result.andThen_ok, Sem.run_pure, Bool.false_xor]
  case neq =>
   obtain ⟨b, rfl, p, l, c, e1, e2, e3⟩ := main (neg := true) h
   refine ⟨.bool (xor true b), ?_, by simp only [Den]⟩
   have hg := eqGuard_ok (P := P) (w := w) (op := .neq) (t := t) (x := x) (y := y) (a := a.eval x) (b := a.eval y) (by rw [e1]; simp) (by rw [e2]; simp)
   simp only [execOp, Sem.run_bind, hg, Result.andThen_ok]
   rw [e1, e2] at e3 ⊢
   rw [binOp_neq (by simp) (by simp) (by simp) (by simp)]
   simp only [Sem.run_bind, e3, Result.andThen_ok, Sem.run_pure, Bool.true_xor]
 case call c =>
  obtain ⟨cal, xs, ts⟩ := c
  cases cal with
  | value f => exact h.elim
  | invoke r m => exact h.elim
  | builtin b =>
   have ops : ∀ x ∈ xs.toList, x ∈ (Op.call { callee := .builtin b, args := xs, argTypes := ts }).operands := by
    intro x hx; simp only [Op.operands, Call.operands]; simpa using hx
   cases b <;> (try (exact h.elim))
   case len =>
    simp only [aOp3] at h
    split at h
    ·rename_i x t hxs hts
     have hx1 : xs = #[x] := by apply Array.ext'; simpa using hxs
     have ht1 : ts = #[t] := by apply Array.ext'; simpa using hts
     subst hx1; subst ht1
     split at h <;> (try (exact h.elim)) <;> simp only [E.Holds] at h <;> subst h
     ·rename_i e hh z i0 n c hk he
      obtain ⟨d, h4, rfl⟩ := kind_run hT hk (by simp) w
      have d1 := hev (ops x (by simp)) he
      simp only [Den] at d1
      obtain ⟨b, o1, mw, C, p, cc, q1, q2, _⟩ := d1
      exact ⟨.int .i64 n, by simp [execOp, resolve, invoke, builtin, Builtin.len_, q2, h4, goInt], by simp [Den]⟩
    ·exact h.elim
   case cap =>
    simp only [aOp3] at h
    split at h
    ·rename_i x t hxs hts
     have hx1 : xs = #[x] := by apply Array.ext'; simpa using hxs
     have ht1 : ts = #[t] := by apply Array.ext'; simpa using hts
     subst hx1; subst ht1
     split at h <;> (try (exact h.elim)) <;> simp only [E.Holds] at h <;> subst h
     ·rename_i e hh z i0 n c hk he
      obtain ⟨d, h4, rfl⟩ := kind_run hT hk (by simp) w
      have d1 := hev (ops x (by simp)) he
      simp only [Den] at d1
      obtain ⟨b, o1, mw, C, p, cc, q1, q2, q3, q4, q5, q6, _⟩ := d1
      have := q6 c rfl
      subst this
      exact ⟨.int .i64 cc, by simp [execOp, resolve, invoke, builtin, Builtin.cap_, q2, h4, goInt], by simp [Den]⟩
    ·exact h.elim
def aOpA (T : Tab) (fr : Fr) (op : Op) : E :=
 match aOp T fr op with
 | .no => match aOp2 T fr op with
  | .no => aOp3 T fr op
  | .val v => .val v
  | .ob p d v => .ob p d v
 | .val v => .val v
 | .ob p d v => .ob p d v
theorem aOpA_ok {P : Program} {T : Tab} (hT : TabOK P T) {fr : Fr} {o : Oper} {v : AV} (h : (aOpA T fr o.op).Holds v) {env : Env} {a : Act} {w : World} (hn : Need env o fr a) :
  ∃ x, (execOp a.eval o).run P w = .ok (.value x) w ∧ Den env v x := by
 unfold aOpA at h
 split at h
 ·split at h
  ·exact aOp3_ok hT h hn
  ·rename_i u hu; exact aOp2_ok hT (by rw [hu]; exact h) hn
  ·rename_i p d u hu; exact aOp2_ok hT (by rw [hu]; exact h) hn
 ·rename_i u hu; exact aOp_ok hT (by rw [hu]; exact h) hn
 ·rename_i p d u hu; exact aOp_ok hT (by rw [hu]; exact h) hn
end
end Go.SX
-- MERGED
-- SQUEEZED
