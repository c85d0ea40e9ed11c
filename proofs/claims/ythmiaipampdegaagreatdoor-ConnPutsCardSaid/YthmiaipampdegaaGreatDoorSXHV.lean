/- SX, part HV: copy, clear, bytes and strings, on rows. -/
import Derived.Test.YthmiaipampdegaaGreatDoorSXHU
import Derived.Laws.IdiomStrings
namespace Go.SX
noncomputable section

/-- A row, out of what a slice says of it. -/
theorem row_of {env : Env} {H : Heap} {F : Foot} {w : World} {h e0 z i len : Nat} {c rc : Option Nat} {cs : List AV} {x : Value} (hs : SatH env H F w) (hl : look H h = some (.row e0 z cs rc)) (hd : Den env (.sv h z i len c) x) :
    ∃ b o m C p cc xs lo hi ys tl, env h = some (.slice (some ⟨b, o, none⟩) m C) ∧ x = .slice (some p) len cc ∧ len ≤ cc ∧ i + cc ≤ C ∧ (c = none → i + cc = C) ∧ (∀ k, c = some k → cc = k) ∧ (0 < cc → p = ⟨b, o + i * z, none⟩) ∧
      RowAt env (.slice (some ⟨b, o, none⟩) m C) (F h) w e0 z cs rc b o m C xs lo hi ys tl := by
  obtain ⟨b, o1, m, C, p, cc, q1, q2, q3, q4, q5, q6, q7⟩ := den_sv.1 hd
  obtain ⟨v1, hv1, s1⟩ := hs.sat hl
  rw [q1] at hv1; cases hv1
  obtain ⟨b', o', m', C', xs, lo, hi, ys, tl, rw1⟩ := rowAt.1 s1
  have hval := rw1.val
  simp only [Value.slice.injEq, Option.some.injEq, Addr.mk.injEq] at hval
  obtain ⟨⟨rfl, rfl, -⟩, rfl, rfl⟩ := hval
  exact ⟨b, o1, m, C, p, cc, xs, lo, hi, ys, tl, q1, q2, q3, q4, q5, q6, q7, rw1⟩

theorem copy_ex {P : Program} {o : Oper} {x y : Operand} {t t' : Nat} {a : Act} {w w' : World} {v : Value} (ho : o.op = .call { callee := .builtin .copy, args := #[x, y], argTypes := #[t, t'] }) (hrun : (Builtin.copy_ #[t, t'] o.type #[a.eval x, a.eval y]).run P w = .ok v w') :
    (execOp a.eval o).run P w = .ok (.value v) w' := by
  simp only [execOp, ho, resolve, invoke, builtin, Sem.run_bind, Sem.run_pure, Result.andThen_ok]
  simp only [List.map_toArray, List.map_cons, List.map_nil]
  rw [hrun]; rfl

theorem triple_copy_row {P : Program} {T : Tab} (hT : TabOK P T) {o : Oper} {fr : Fr} {n h t t' e e0 sz i len l2 k : Nat} {c rc : Option Nat} {ag : Bool} {z ws cs : List AV} {kk : TK} {x y : Operand} {R : Heap} {yv : AV} {r : Option Res}
    (ho : o.op = .call { callee := .builtin .copy, args := #[x, y], argTypes := #[t, t'] }) (hx : ev fr x = some (.sv h sz i len c)) (hy : ev fr y = some yv) (hk : kindOf T t = .slice e) (hr : T e = some ⟨ag, sz, z, kk⟩) (hzl : z.length = sz)
    (hsr : ∀ h', srcH yv = some h' → ∃ q, r = some q ∧ look ([(h, .row e0 sz cs rc)] ++ R) h' = some q) (hln : lenA yv r = some l2) (hkm : k = min l2 len) (hrd : readsA sz yv r k = some ws) (hl : ws.all leafA = true)
    (hk0 : 0 < k) (hin : i * sz ≤ cs.length) :
    Triple P o fr R [(h, .row e0 sz cs rc)] n n (.int .i64 k) [(h, .row e0 sz (splice cs (i * sz) ws) rc)] := by
  intro env F a w next Q hn hs hfresh hkk
  have hd1 := ev_den hn (by rw [ho]; simp [Op.operands, Call.operands]) hx
  have hd2 := ev_den hn (by rw [ho]; simp [Op.operands, Call.operands]) hy
  obtain ⟨hu, iv, zv, g1, g2, g3, g4, g5, g6⟩ := elem_info hT hk hr hzl
  have hlk : look ([(h, Res.row e0 sz cs rc)] ++ R) h = some (.row e0 sz cs rc) := by simp [lookN, lookC, Nat.beq_refl]
  obtain ⟨b, o1, m, C, p, cc, xs, lo, hi, ys, tl, q1, q2, q3, q4, q5, q6, q7, rw1⟩ := row_of hs hlk hd1
  have hlen := rw1.len
  obtain ⟨news, r1, r2, r3⟩ := readsA_ok (P := P) hs hsr hd2 hrd hln (by omega)
  have hl2 := lenA_ok (P := P) hs hsr hd2 hln w
  have hpp := q7 (by omega)
  subst hpp
  have hwl := r3.length
  have hfit2 : i * sz + ws.length ≤ C * sz := by
    rw [hwl, r2, ← Nat.add_mul]
    exact Nat.mul_le_mul_right _ (by omega)
  obtain ⟨w', F', hst, ht⟩ := Turn.row_write (n := n) hs q1 hin hfit2 r3 (leaves_one hl r3)
  have hst := hst P
  have r1 := r1 w rfl
  have hmin : Nat.min l2 len = k := hkm.symm
  have hrun : (Builtin.copy_ #[t, t'] o.type #[a.eval x, a.eval y]).run P w = .ok (goInt k) w' := by
    rw [q2]
    simp [Builtin.copy_, run_underlying hu, hl2, hmin, sizeOf, typeInfo, g1, g2, r1, hst]
  unfold Oper.wp
  rw [copy_ex ho hrun]
  exact hkk env F' _ w' ht (by simp only [Den, goInt])

theorem triple_copy_box {P : Program} {T : Tab} (hT : TabOK P T) {o : Oper} {fr : Fr} {n h t t' e e0 sz off len cap l2 k : Nat} {ag : Bool} {z ws cs : List AV} {kk : TK} {x y : Operand} {R : Heap} {yv : AV} {r : Option Res}
    (ho : o.op = .call { callee := .builtin .copy, args := #[x, y], argTypes := #[t, t'] }) (hx : ev fr x = some (.slc h off len cap)) (hy : ev fr y = some yv) (hk : kindOf T t = .slice e) (hr : T e = some ⟨ag, sz, z, kk⟩) (hzl : z.length = sz)
    (hsr : ∀ h', srcH yv = some h' → ∃ q, r = some q ∧ look ([(h, .box e0 cs)] ++ R) h' = some q) (hln : lenA yv r = some l2) (hkm : k = min l2 len) (hrd : readsA sz yv r k = some ws) (hl : ws.all leafA = true)
    (hin : off + k * sz ≤ cs.length) :
    Triple P o fr R [(h, .box e0 cs)] n n (.int .i64 k) [(h, .box e0 (splice cs off ws))] := by
  intro env F a w next Q hn hs hfresh hkk
  have hd1 := ev_den hn (by rw [ho]; simp [Op.operands, Call.operands]) hx
  have hd2 := ev_den hn (by rw [ho]; simp [Op.operands, Call.operands]) hy
  obtain ⟨hu, iv, zv, g1, g2, g3, g4, g5, g6⟩ := elem_info hT hk hr hzl
  simp only [Den] at hd1
  obtain ⟨b, hb, hx'⟩ := hd1
  have hlk : look ([(h, Res.box e0 cs)] ++ R) h = some (.box e0 cs) := by simp [lookN, lookC, Nat.beq_refl]
  obtain ⟨v1, hv1, b1, xs, e1, e2, e3, e4⟩ := hs.sat hlk
  rw [hb] at hv1; cases hv1; cases e1
  obtain ⟨news, r1, r2, r3⟩ := readsA_ok (P := P) hs hsr hd2 hrd hln (by omega)
  have hl2 := lenA_ok (P := P) hs hsr hd2 hln w
  have hwl := r3.length
  have hlen := e4.length
  have hst := run_storeCells_at P b off e0 news 0 xs w e3 (by simp at hlen; omega) (leaves_one hl r3)
  simp only [Nat.add_zero] at hst
  have r1 := r1 w rfl
  have hmin : Nat.min l2 len = k := hkm.symm
  have hrun : (Builtin.copy_ #[t, t'] o.type #[a.eval x, a.eval y]).run P w = .ok (goInt k) (w.setRow b (xs.toList.take off ++ news ++ xs.toList.drop (off + news.length)).toArray) := by
    rw [hx']
    simp [Builtin.copy_, run_underlying hu, hl2, hmin, sizeOf, typeInfo, g1, g2, r1, hst]
  unfold Oper.wp
  rw [copy_ex ho hrun]
  have hdd := splice_den e4 r3 off
  exact hkk env _ _ _ (Turn.write hs hb e3 (by simpa [List.append_assoc] using hdd)) (by simp only [Den, goInt])

/-- Nothing is copied. -/
theorem triple_copy_zero {P : Program} {T : Tab} (hT : TabOK P T) {o : Oper} {fr : Fr} {n t t' e sz l1 l2 : Nat} {ag : Bool} {z : List AV} {kk : TK} {x y : Operand} {R : Heap} {xv yv : AV} {rx r : Option Res}
    (ho : o.op = .call { callee := .builtin .copy, args := #[x, y], argTypes := #[t, t'] }) (hx : ev fr x = some xv) (hy : ev fr y = some yv) (hk : kindOf T t = .slice e) (hr : T e = some ⟨ag, sz, z, kk⟩) (hzl : z.length = sz)
    (hsx : ∀ h', srcH xv = some h' → ∃ q, rx = some q ∧ look R h' = some q) (hsr : ∀ h', srcH yv = some h' → ∃ q, r = some q ∧ look R h' = some q) (hlx : lenA xv rx = some l1) (hln : lenA yv r = some l2) (hk0 : min l2 l1 = 0)
    (hns : ∀ s, xv ≠ .str s) (hrd : readsA sz yv r 0 = some []) :
    Triple P o fr R [] n n (.int .i64 0) [] := by
  intro env F a w next Q hn hs hfresh hkk
  have hd1 := ev_den hn (by rw [ho]; simp [Op.operands, Call.operands]) hx
  have hd2 := ev_den hn (by rw [ho]; simp [Op.operands, Call.operands]) hy
  obtain ⟨hu, iv, zv, g1, g2, g3, g4, g5, g6⟩ := elem_info hT hk hr hzl
  have hs' : SatH env R F w := by simpa using hs
  obtain ⟨news, r1, r2, r3⟩ := readsA_ok (P := P) hs' hsr hd2 hrd hln (Nat.zero_le _)
  have hl1 := lenA_ok (P := P) hs' hsx hd1 hlx w
  have hl2 := lenA_ok (P := P) hs' hsr hd2 hln w
  have r1 := r1 w rfl
  have hn0 : news = [] := List.eq_nil_of_length_eq_zero (by simpa using r2)
  subst hn0
  have hxe : ∃ base cc, a.eval x = .slice base l1 cc := by
    unfold lenA at hlx
    split at hlx
    · cases hlx; simp only [Den] at hd1; exact ⟨_, _, hd1⟩
    · rename_i s; exact absurd rfl (hns s)
    · cases hlx; obtain ⟨b, o1, m, C, p, cc, q1, q2, _⟩ := den_sv.1 hd1; exact ⟨_, _, q2⟩
    · cases hlx; simp only [Den] at hd1; obtain ⟨_, _, h⟩ := hd1; exact ⟨_, _, h⟩
    · rename_i h len D
      split at hlx
      · rename_i k hk
        cases hlx
        simp only [Den] at hd1
        obtain ⟨q, hq, hlk⟩ := hsx h rfl
        cases hq
        obtain ⟨v1, hv1, s1⟩ := hs'.sat hlk
        rw [hd1.1] at hv1; cases hv1
        obtain ⟨p, cap, hv, _⟩ := D.reads _ hk s1
        exact ⟨_, _, hv⟩
      · cases hlx
    · cases hlx
  obtain ⟨base, cc, hxe⟩ := hxe
  have hmin : Nat.min l2 l1 = 0 := hk0
  have hrun : (Builtin.copy_ #[t, t'] o.type #[a.eval x, a.eval y]).run P w = .ok (goInt 0) w := by
    rw [hxe]
    cases base <;> simp [Builtin.copy_, run_underlying hu, hl2, hmin, sizeOf, typeInfo, g1, g2, r1, storeCells]
  unfold Oper.wp
  rw [copy_ex ho hrun]
  exact hkk env F _ w (Turn.refl _ _ _ _ _) (by simp [Den, goInt])

theorem triple_clear_row {P : Program} {T : Tab} (hT : TabOK P T) {o : Oper} {fr : Fr} {n h t e e0 sz i len : Nat} {c rc : Option Nat} {ag : Bool} {z cs : List AV} {kk : TK} {x : Operand}
    (ho : o.op = .call { callee := .builtin .clear, args := #[x], argTypes := #[t] }) (hx : ev fr x = some (.sv h sz i len c)) (hk : kindOf T t = .slice e) (hr : T e = some ⟨ag, sz, z, kk⟩) (hzl : z.length = sz)
    (hl : z.all leafA = true) (hz0 : 0 < sz) (hk0 : 0 < len) (hin : i * sz ≤ cs.length) :
    Triple P o fr [] [(h, .row e0 sz cs rc)] n n (.tup []) [(h, .row e0 sz (splice cs (i * sz) (repA len sz z)) rc)] := by
  intro env F a w next Q hn hs hfresh hkk
  have hd1 := ev_den hn (by rw [ho]; simp [Op.operands, Call.operands]) hx
  obtain ⟨hu, iv, zv, g1, g2, g3, g4, g5, g6⟩ := elem_info hT hk hr hzl
  have hlk : look ([(h, Res.row e0 sz cs rc)] ++ []) h = some (.row e0 sz cs rc) := by simp [lookN, lookC, Nat.beq_refl]
  obtain ⟨b, o1, m, C, p, cc, xs, lo, hi, ys, tl, q1, q2, q3, q4, q5, q6, q7, rw1⟩ := row_of hs hlk hd1
  have hlen := rw1.len
  have hpp := q7 (by omega)
  subst hpp
  have hden : Dens env (repA len sz z) (Builtin.zeroCells zv.cells len).toList := by
    have := repA_den (env := env) (m := len) (g5 env) hzl (by
      have := Nat.mul_pos hk0 hz0; omega)
    unfold Builtin.zeroCells
    rw [g4] at this ⊢; exact this
  have hrl : (repA len sz z).length = len * sz := by simp [repA]
  have hfit2 : i * sz + (repA len sz z).length ≤ C * sz := by
    rw [hrl, ← Nat.add_mul]
    exact Nat.mul_le_mul_right _ (by omega)
  have hleaf : (repA len sz z).all leafA = true := by
    rw [List.all_eq_true]
    intro u hu
    unfold repA at hu
    rw [List.mem_map] at hu
    obtain ⟨j, _, rfl⟩ := hu
    rw [nth_eq]
    have hj : j % sz < z.length := by rw [hzl]; exact Nat.mod_lt _ hz0
    rw [List.getElem?_eq_getElem hj]
    exact List.all_eq_true.1 hl _ (List.getElem_mem hj)
  obtain ⟨w', F', hst, ht⟩ := Turn.row_write (n := n) hs q1 hin hfit2 hden (leaves_one hleaf hden)
  have hst := hst P
  have hlen0 : len ≠ 0 := by omega
  have hrun : (Builtin.clear_ #[t] o.type #[a.eval x]).run P w = .ok (.tuple #[]) w' := by
    rw [q2]
    obtain ⟨l', rfl⟩ : ∃ l', len = l' + 1 := ⟨len - 1, by omega⟩
    simp [Builtin.clear_, run_underlying hu, zeroValue, typeInfo, g1, g3, hst]
  unfold Oper.wp
  rw [show (execOp a.eval o).run P w = .ok (.value (.tuple #[])) w' by
    simp only [execOp, ho, resolve, invoke, builtin, Sem.run_bind, Sem.run_pure, Result.andThen_ok]
    simp only [List.map_toArray, List.map_cons, List.map_nil]
    rw [hrun]; rfl]
  exact hkk env F' _ w' ht (by simp only [Den]; exact ⟨#[], rfl, by simp [Dens]⟩)

/-- string(b), of a row. -/
theorem triple_b2s_row {P : Program} {T : Tab} (hT : TabOK P T) {o : Oper} {fr : Fr} {n h e0 i len s d e : Nat} {c rc : Option Nat} {x : Operand} {cs : List AV} {l : List Int}
    (ho : o.op = .convert s d x) (hx : ev fr x = some (.sv h 1 i len c)) (hs : kindOf T s = .slice e) (he : kindOf T e = .int .u8) (hd : kindOf T d = .str) (hl : intsL (cs.drop i) len = some l) (hle : i + len ≤ cs.length) :
    Triple P o fr [(h, .row e0 1 cs rc)] [] n n (.str (strOfNums l)) [] := by
  intro env F a w next Q hn hsat hfresh hk
  have hd1 := ev_den hn (by rw [ho]; simp [Op.operands]) hx
  have hlk : look ([] ++ [(h, Res.row e0 1 cs rc)]) h = some (.row e0 1 cs rc) := by simp [lookN, lookC, Nat.beq_refl]
  obtain ⟨b, o1, m, C, p, cc, xs, lo, hi, ys, tl, q1, q2, q3, q4, q5, q6, q7, rw1⟩ := row_of hsat hlk hd1
  obtain ⟨d1, hu1, k1⟩ := kindOf_ok hT hs (by simp)
  obtain ⟨d2, hu2, k2⟩ := kindOf_ok hT he (by simp)
  obtain ⟨d3, hu3, k3⟩ := kindOf_ok hT hd (by simp)
  simp only [KindOK] at k1 k2 k3
  subst k1; subst k2; subst k3
  obtain ⟨g1, g2⟩ := intsL_ok hl
  have hrun : (convert s d (a.eval x)).run P w = .ok (.string (strOfNums l)) w := by
    rw [q2]
    by_cases h0 : len = 0
    · subst h0
      have : l = [] := List.length_eq_zero_iff.1 g1
      subst this
      obtain ⟨b0, o0, s0⟩ := p
      simp [convert, run_underlying hu1, run_underlying hu2, run_underlying hu3, Conv.bytesToString, loadCells, loadCellsFrom]
      rfl
    · have hpp := q7 (by omega)
      subst hpp
      refine run_convert_bytes_arg w s e hu1 hu2 b (o1 + i * 1) len cc l g1 ?_ d hu3
      intro j hj
      have h1 := g2 j hj
      rw [List.getElem?_drop] at h1
      obtain ⟨y, r1, r2⟩ := rw1.cell h1
      simp only [Den] at r2
      rw [← r2, ← r1]; congr 2; omega
  unfold Oper.wp
  rw [show (execOp a.eval o).run P w = .ok (.value (.string (strOfNums l))) w by simp [execOp, ho, hrun]]
  exact hk env F _ w (Turn.refl _ _ _ _ _) (by simp only [Den])

/-- []byte(s), as a row. -/
theorem triple_s2b_row {P : Program} {T : Tab} (hT : TabOK P T) {o : Oper} {fr : Fr} {n s d e : Nat} {x : Operand} {b : ByteArray}
    (ho : o.op = .convert s d x) (hx : ev fr x = some (.str b)) (hs : kindOf T s = .str) (hd : kindOf T d = .slice e) (he : kindOf T e = .int .u8) :
    Triple P o fr [] [] n (n + 1) (.sv n 1 0 b.size none) [(n, .row e 1 (bytesA b) none)] := by
  intro env F a w next Q hn hsat hfresh hk
  have hn' := hfresh n (Nat.le_refl _) (by omega)
  have hd1 := ev_den hn (by rw [ho]; simp [Op.operands]) hx
  simp only [Den] at hd1
  obtain ⟨d1, hu1, k1⟩ := kindOf_ok hT hs (by simp)
  obtain ⟨d2, hu2, k2⟩ := kindOf_ok hT he (by simp)
  obtain ⟨d3, hu3, k3⟩ := kindOf_ok hT hd (by simp)
  simp only [KindOK] at k1 k2 k3
  subst k1; subst k2; subst k3
  have hrun := run_bytes_of_string (P := P) w s d e b hu1 hu3 hu2
  unfold Oper.wp
  have hcap : b.size ≤ grownCap w b.size 0 e := grownCap_ge _ _ _ _
  have hsz : b.data.size = b.size := rfl
  rw [show (execOp a.eval o).run P w = .ok (.value (.slice (some ⟨w.heap.size, 0, none⟩) b.size (grownCap w b.size 0 e))) (w.drew.alloc (.cells (bytesRow b (grownCap w b.size 0 e)) e ((bytesRow b (grownCap w b.size 0 e)).size, (bytesRow b (grownCap w b.size 0 e)).size + 1))) by
    simp only [execOp, ho, hd1, Sem.run_bind]; rw [hrun]; rfl]
  refine hk _ _ _ _ (Turn.row_new (w1 := w.drew) (ys := b.data.toList.map fun b => Value.int .u8 b.toNat) (tl := List.replicate (grownCap w b.size 0 e - b.size) (.int .u8 0)) (C := grownCap w b.size 0 e) hn' ⟨rfl, rfl, rfl, rfl⟩ ?_ ?_ (bytesA_den _) (.inl ⟨rfl, Nat.le_refl _⟩) (fun k hk => by cases hk))
    (sv_new hcap (fun k hk => by cases hk))
  · simp [bytesRow, hsz]; omega
  · simp [bytesRow]

end
end Go.SX
