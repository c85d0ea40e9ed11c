/- SX, part HR: rows: blocks of elements, seen through slices. -/
import Derived.Test.YthmiaipampdegaaGreatDoorSXHS
import Derived.Test.YthmiaipampdegaaGreatDoorSXHM
import Derived.Deep.AppendSrc
namespace Go.SX
noncomputable section

theorem run_storeRow {P : Program} (g o : Nat) (t : TypeId) (lo hi : Nat) : ∀ (vs : List Value) (i : Nat) (cur : Array Value) (w : World), w.heap[g]? = some (.cells cur t (lo, hi)) → (cur.size ≤ lo ∨ hi ≤ lo) → o + i + vs.length ≤ cur.size →
    (∀ v ∈ vs, v.oneCell' = true) → (storeCells ⟨g, o, none⟩ vs i).run P w = .ok () (w.setRow g (cur.toList.take (o + i) ++ vs ++ cur.toList.drop (o + i + vs.length)).toArray)
  | [], i, cur, w, hg, _, _, _ => by
    simp only [storeCells, List.append_nil, List.length_nil, Nat.add_zero, List.take_append_drop, Array.toArray_toList]
    rw [setRow_self w g cur t (lo, hi) hg]
    rfl
  | v :: rest, i, cur, w, hg, hfz, hl, h1 => by
    have hi' : o + i < cur.size := by simp at hl; omega
    have hadd : (⟨g, o, none⟩ : Addr).add i = ⟨g, o + i, none⟩ := by unfold Addr.add; split <;> simp_all
    have hcell : w.cell? ⟨g, o + i, none⟩ = some cur[o + i] := by simp [World.cell?, hg, hi']
    have hfro : w.frozen? ⟨g, o + i, none⟩ = false := by
      simp only [World.frozen?, hg, Bool.and_eq_false_imp, decide_eq_true_eq, decide_eq_false_iff_not]
      intro h; omega
    have hst : (store ((⟨g, o, none⟩ : Addr).add i) v).run P w = .ok () (w.setRow g (cur.setIfInBounds (o + i) v)) := by
      rw [hadd, run_store P w _ v _ (h1 v (by simp)), hcell]
      simp [hfro, setCell_eq_setRow w g (o + i) cur t (lo, hi) v hg]
    have ih := run_storeRow (P := P) g o t lo hi rest (i + 1) (cur.setIfInBounds (o + i) v) (w.setRow g (cur.setIfInBounds (o + i) v)) (setRow_heap w g cur _ t _ hg) (by simpa using hfz) (by simp at hl ⊢; omega) (fun x hx => h1 x (by simp [hx]))
    simp only [storeCells, Sem.run_bind, hst, Result.andThen_ok, ih, setRow_setRow]
    congr 3
    have e := list_seg_step cur.toList (o + i) v rest (by simp at hl ⊢; omega)
    simpa [Array.toList_setIfInBounds, Nat.add_assoc] using e

/-- What a row says. -/
structure RowAt (env : Env) (v : Value) (F : Nat → Prop) (w : World) (e z : Nat) (cs : List AV) (cap : Option Nat) (b o m C : Nat) (xs : Array Value) (lo hi : Nat) (ys tl : List Value) : Prop where
  val : v = .slice (some ⟨b, o, none⟩) m C
  foot : ∀ k, F k ↔ k = b
  at_ : w.heap[b]? = some (.cells xs e (lo, hi))
  fz : (z = 1 ∧ xs.size ≤ lo) ∨ hi ≤ lo
  size : xs.size = o + C * z
  split : xs.toList.drop o = ys ++ tl
  den : Dens env cs ys
  cap : ∀ k, cap = some k → C = k

theorem rowAt {env : Env} {v : Value} {F : Nat → Prop} {w : World} {e z : Nat} {cs : List AV} {cap : Option Nat} : (Res.row e z cs cap).sat env v F w ↔ ∃ b o m C xs lo hi ys tl, RowAt env v F w e z cs cap b o m C xs lo hi ys tl :=
  ⟨fun ⟨b, o, m, C, xs, lo, hi, ys, tl, h1, h2, h3, h4, h5, h6, h7, h8⟩ => ⟨b, o, m, C, xs, lo, hi, ys, tl, h1, h2, h3, h4, h5, h6, h7, h8⟩,
   fun ⟨b, o, m, C, xs, lo, hi, ys, tl, ⟨h1, h2, h3, h4, h5, h6, h7, h8⟩⟩ => ⟨b, o, m, C, xs, lo, hi, ys, tl, h1, h2, h3, h4, h5, h6, h7, h8⟩⟩

section
variable {env : Env} {v : Value} {F : Nat → Prop} {w : World} {e z : Nat} {cs : List AV} {cap : Option Nat} {b o m C : Nat} {xs : Array Value} {lo hi : Nat} {ys tl : List Value}

theorem RowAt.len (r : RowAt env v F w e z cs cap b o m C xs lo hi ys tl) : cs.length + tl.length = C * z := by
  have h1 := congrArg List.length r.split
  have h2 := r.den.length
  have h3 := r.size
  simp at h1; omega

theorem RowAt.cell (r : RowAt env v F w e z cs cap b o m C xs lo hi ys tl) {k : Nat} {u : AV} (h : cs[k]? = some u) : ∃ y, w.cell? ⟨b, o + k, none⟩ = some y ∧ Den env u y := by
  obtain ⟨y, hy, hd⟩ := r.den.get h
  refine ⟨y, ?_, hd⟩
  rw [cell_of r.at_]
  have h1 : (xs.toList.drop o)[k]? = some y := by rw [r.split, List.getElem?_append_left (getElem?_lt' hy)]; exact hy
  rw [List.getElem?_drop] at h1
  simpa using h1
where
  getElem?_lt' {α : Type} {l : List α} {i : Nat} {x : α} (h : l[i]? = some x) : i < l.length := by
    rcases Nat.lt_or_ge i l.length with h' | h'
    · exact h'
    · simp [List.getElem?_eq_none h'] at h

/-- What lies in a row, at element i, is what the pointer of an element sees. -/
theorem RowAt.read (r : RowAt env v F w e z cs cap b o m C xs lo hi ys tl) {i n : Nat} (h : i + n ≤ cs.length) : ∃ news : List Value, news.length = n ∧ (∀ j u, news[j]? = some u → w.cell? ((⟨b, o + i, none⟩ : Addr).add j) = some u) ∧ Dens env ((cs.drop i).take n) news := by
  refine ⟨(ys.drop i).take n, ?_, ?_, (r.den.drop i).take n⟩
  · have := r.den.length; simp; omega
  · intro j u hu
    rw [List.getElem?_take] at hu
    split at hu
    · rw [List.getElem?_drop] at hu
      rw [addr_add, cell_of r.at_]
      have hlt : i + j < ys.length := by have := r.den.length; omega
      have h1 : (xs.toList.drop o)[i + j]? = some u := by rw [r.split, List.getElem?_append_left hlt]; exact hu
      rw [List.getElem?_drop] at h1
      rw [Nat.add_assoc]
      simpa using h1
    · cases hu
end

theorem Turn.row_write {env : Env} {F : Foot} {w : World} {h e z n : Nat} {cs : List AV} {cap : Option Nat} {R : Heap} (hs : SatH env ([(h, .row e z cs cap)] ++ R) F w) {b o m C k : Nat} (hb : env h = some (.slice (some ⟨b, o, none⟩) m C)) {ws : List AV} {vs : List Value}
    (hk : k ≤ cs.length) (hfit : k + ws.length ≤ C * z) (hd : Dens env ws vs) (hl : ∀ v ∈ vs, v.oneCell' = true) :
    ∃ w' F', (∀ P : Program, (storeCells ⟨b, o + k, none⟩ vs 0).run P w = .ok () w') ∧ Turn n n R [(h, .row e z cs cap)] [(h, .row e z (splice cs k ws) cap)] env F w env F' w' := by
  obtain ⟨v1, hv1, hsat⟩ := hs.sat (h := h) (r := .row e z cs cap) (by simp [lookN, lookC, Nat.beq_refl])
  rw [hb] at hv1; cases hv1
  obtain ⟨b', o', m', C', xs, lo, hi, ys, tl, r⟩ := rowAt.1 hsat
  have hval := r.val
  simp only [Value.slice.injEq, Option.some.injEq, Addr.mk.injEq] at hval
  obtain ⟨⟨rfl, rfl, -⟩, rfl, rfl⟩ := hval
  have hlen := r.len
  have hys := r.den.length
  have hws := hd.length
  have hsz := r.size
  have hst := fun P : Program => run_storeRow (P := P) b (o + k) e lo hi vs 0 xs w r.at_ (r.fz.imp_left And.right) (by omega) hl
  simp only [Nat.add_zero] at hst
  have hF := r.foot
  refine ⟨_, fun _ x => x = b, hst, Env.le.refl _, fun _ _ => rfl, ⟨?_, ?_⟩, ?_, ⟨rfl, rfl, rfl, by simp, ?_⟩⟩
  · intro h' r' hl'
    obtain ⟨rfl, rfl⟩ := look_one hl'
    refine ⟨_, hb, rowAt.2 ⟨b, o, m, C, _, lo, hi, ys.take k ++ (vs ++ ys.drop (k + vs.length)), tl.drop (k + vs.length - ys.length), rfl, fun _ => Iff.rfl, setRow_heap w b xs _ e (lo, hi) r.at_, ?_, ?_, ?_, splice_den r.den hd k, r.cap⟩⟩
    · have : (List.take (o + k) xs.toList ++ vs ++ List.drop (o + k + vs.length) xs.toList).toArray.size = xs.size := by simp; omega
      rw [this]; exact r.fz
    · simp; omega
    · have e1 : xs.toList.take (o + k) = xs.toList.take o ++ (xs.toList.drop o).take k := by rw [List.take_add]
      have e2 : xs.toList.drop (o + k + vs.length) = (xs.toList.drop o).drop (k + vs.length) := by rw [List.drop_drop, Nat.add_assoc]
      simp only
      rw [e1, e2, r.split]
      have e3 : (xs.toList.take o).length = o := by simp; omega
      rw [List.append_assoc, List.append_assoc, List.drop_append, List.drop_of_length_le (by omega), e3, Nat.sub_self, List.drop_zero, List.nil_append, List.take_append_of_le_length (by omega), List.drop_append]
      simp only [List.append_assoc]
  · intro h1 r1 h2 r2 hl1 hl2 hne
    obtain ⟨rfl, rfl⟩ := look_one hl1
    obtain ⟨rfl, rfl⟩ := look_one hl2
    exact absurd rfl hne
  · intro h' r' x hl' hx
    obtain ⟨rfl, rfl⟩ := look_one hl'
    exact .inl ⟨h', _, by simp [lookN, lookC, Nat.beq_refl]; rfl, (hF x).2 hx, fun _ => rfl⟩
  · intro x _ hx
    exact setRow_other w b x _ fun e' => hx ⟨h, .row e z cs cap, by simp [lookN, lookC, Nat.beq_refl], rfl, (hF x).2 e'⟩

/-- A new row. -/
theorem Turn.row_new {n : Nat} {R : Heap} {env : Env} {F : Foot} {w w1 : World} {xs : Array Value} {e z m C lo hi : Nat} {cs : List AV} {ys tl : List Value} {cap : Option Nat} (hn : env n = none)
    (hw : w1.heap = w.heap ∧ w1.os = w.os ∧ w1.tape = w.tape ∧ w1.output = w.output) (hsz : xs.size = C * z) (hsp : xs.toList = ys ++ tl) (hd : Dens env cs ys) (hfz : (z = 1 ∧ xs.size ≤ lo) ∨ hi ≤ lo) (hc : ∀ k, cap = some k → C = k) :
    Turn n (n + 1) R [] [(n, .row e z cs cap)] env F w (env.set n (.slice (some ⟨w.heap.size, 0, none⟩) m C)) (fun _ b => b = w.heap.size) (w1.alloc (.cells xs e (lo, hi))) := by
  obtain ⟨hw1, hw2, hw3, hw4⟩ := hw
  refine ⟨Env.le_set hn, ?_, ⟨?_, ?_⟩, ?_, ⟨hw2, hw3, hw4, ?_, ?_⟩⟩
  · intro h hh; unfold Env.set; rw [if_neg (by omega)]
  · intro h r hl
    obtain ⟨rfl, rfl⟩ := look_one hl
    refine ⟨_, Env.set_same _ _ _, rowAt.2 ⟨w.heap.size, 0, m, C, xs, lo, hi, ys, tl, rfl, fun _ => Iff.rfl, ?_, hfz, by omega, by simpa using hsp, Dens.mono (Env.le_set hn) cs hd, hc⟩⟩
    show (w1.heap.push _)[w.heap.size]? = _
    rw [hw1]; simp
  · intro h r h' r' hl hl' hne
    obtain ⟨rfl, rfl⟩ := look_one hl
    obtain ⟨rfl, rfl⟩ := look_one hl'
    exact absurd rfl hne
  · intro h r b hl hb
    exact .inr (.inr (Nat.le_of_eq hb.symm))
  · show _ ≤ (w1.heap.push _).size
    rw [hw1]; simp
  · intro b hb _
    show (w1.heap.push _)[b]? = _
    rw [hw1, Array.getElem?_push, if_neg (by omega)]

/-- A slice over all of a new row. -/
theorem sv_new {env : Env} {n z b m C : Nat} {cap : Option Nat} (hm : m ≤ C) (hc : ∀ k, cap = some k → C = k) : Den (env.set n (.slice (some ⟨b, 0, none⟩) m C)) (.sv n z 0 m cap) (.slice (some ⟨b, 0, none⟩) m C) := by
  simp only [Den]
  exact ⟨b, 0, m, C, _, C, Env.set_same _ _ _, rfl, hm, by omega, fun _ => by omega, fun k hk => hc k hk, fun _ => by simp⟩

theorem triple_load_row {P : Program} {T : Tab} (hT : TabOK P T) {o : Oper} {fr : Fr} {n h i c e z : Nat} {t : TypeId} {x : Operand} {r : TRow} {cs : List AV} {cap : Option Nat} {v : AV}
    (ho : o.op = .load t x) (hx : ev fr x = some (.el h z i c)) (hr : T t = some r) (hv : readA r.agg r.size cs (i * z + c) = some v) :
    Triple P o fr [(h, .row e z cs cap)] [] n n v [] := by
  intro env F a w next Q hn hs _ hk
  have hd := ev_den hn (by rw [ho]; simp [Op.operands]) hx
  simp only [Den] at hd
  obtain ⟨b, p, len, cp, hb, hx'⟩ := hd
  obtain ⟨v1, hv1, hsat⟩ := hs.sat (h := h) (r := .row e z cs cap) (by simp [lookN, lookC, Nat.beq_refl])
  rw [hb] at hv1
  cases hv1
  obtain ⟨b', o', m', C', xs, lo, hi, ys, tl, rw1⟩ := rowAt.1 hsat
  have hval := rw1.val
  simp only [Value.slice.injEq, Option.some.injEq, Addr.mk.injEq] at hval
  obtain ⟨⟨rfl, rfl, -⟩, rfl, rfl⟩ := hval
  obtain ⟨ag, sz, zz, k⟩ := r
  generalize hoff : i * z + c = off at *
  have : ∃ y, (loadVar t ⟨b, p + off, none⟩).run P w = .ok y w ∧ Den env v y := by
    cases ag with
    | true =>
      simp only [readA, takeR_eq, dropR_eq, lenR_eq] at hv
      split at hv
      · rename_i hle
        cases hv
        have hle := Nat.le_of_ble_eq_true hle
        refine run_loadVar_cells hT hr (cs := (cs.drop off).take sz) (by simp; omega) ?_ (.inl ⟨rfl, rfl⟩)
        intro j u hu
        rw [List.getElem?_take] at hu
        split at hu
        · rw [List.getElem?_drop] at hu
          obtain ⟨y, hy, hyd⟩ := rw1.cell hu
          exact ⟨y, by rw [Nat.add_assoc]; exact hy, hyd⟩
        · cases hu
      · cases hv
    | false =>
      simp only [readA, takeR_eq, dropR_eq, lenR_eq] at hv
      split at hv
      · rename_i hle
        have hle := Nat.eq_of_beq_eq_true hle
        subst hle
        rw [nth_eq] at hv
        refine run_loadVar_cells hT hr (cs := [v]) rfl ?_ (.inr ⟨rfl, rfl⟩)
        intro j u hu
        cases j with
        | zero =>
          simp at hu; subst hu
          obtain ⟨y, hy, hyd⟩ := rw1.cell hv
          exact ⟨y, by rw [Nat.add_zero]; exact hy, hyd⟩
        | succ j => simp at hu
      · cases hv
  obtain ⟨y, hy, hyd⟩ := this
  unfold Oper.wp
  rw [show (execOp a.eval o).run P w = .ok (.value y) w by simp [execOp, ho, Instr.loadAt, hx', Instr.sureAddr, hy]]
  exact hk env F y w (Turn.refl _ _ _ _ _) hyd

theorem triple_store_row {P : Program} {T : Tab} (hT : TabOK P T) {o : Oper} {fr : Fr} {n h i c e z : Nat} {t : TypeId} {x y : Operand} {r : TRow} {cs : List AV} {cap : Option Nat} {v : AV}
    (ho : o.op = .store t x y) (hx : ev fr x = some (.el h z i c)) (hy : ev fr y = some v) (hr : T t = some r) (hv : rawA v = false)
    (hl : (cellsOf v).all leafA = true) (hsz : (cellsOf v).length = r.size) (hle : i * z + c + r.size ≤ cs.length) :
    Triple P o fr [] [(h, .row e z cs cap)] n n (.raw undef) [(h, .row e z (splice cs (i * z + c) (cellsOf v)) cap)] := by
  intro env F a w next Q hn hs _ hk
  have hd := ev_den hn (by rw [ho]; simp [Op.operands]) hx
  have hdy := ev_den hn (by rw [ho]; simp [Op.operands]) hy
  simp only [Den] at hd
  obtain ⟨b, p, len, cp, hb, hx'⟩ := hd
  have hc := cellsOf_den (rawA_no hv) hdy
  obtain ⟨v1, hv1, hsat⟩ := hs.sat (h := h) (r := .row e z cs cap) (by simp [lookN, lookC, Nat.beq_refl])
  rw [hb] at hv1
  cases hv1
  obtain ⟨b', o', m', C', xs, lo, hi, ys, tl, rw1⟩ := rowAt.1 hsat
  have hval := rw1.val
  simp only [Value.slice.injEq, Option.some.injEq, Addr.mk.injEq] at hval
  obtain ⟨⟨rfl, rfl, -⟩, rfl, rfl⟩ := hval
  obtain ⟨h1, _, _, h4⟩ := row_info hT hr w
  have hlen := hc.length
  have hC := rw1.len
  obtain ⟨w', F', hst, ht⟩ := Turn.row_write (n := n) hs hb (k := i * z + c) (by omega) (by omega) hc (leaves_one hl hc)
  have hsz' : (a.eval y).cells.size = r.size := by rw [← hsz, hlen]; simp
  unfold Oper.wp
  have hrun : (execOp a.eval o).run P w = .ok .skip w' := by
    simp only [execOp, ho, Instr.storeAt, Sem.run_bind, hx', Instr.sureAddr, Sem.run_pure, Result.andThen_ok, storeVar, h1, hsz', ne_eq, not_true_eq_false, if_false]
    rw [hst P]; rfl
  rw [hrun]
  exact hk env F' undef w' ht (by simp only [Den])

end
end Go.SX
