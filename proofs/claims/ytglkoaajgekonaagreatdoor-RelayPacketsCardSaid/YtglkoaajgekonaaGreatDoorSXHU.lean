/- SX, part HU: append, copy, clear, on rows. -/
import Derived.Test.YtglkoaajgekonaaGreatDoorSXHS
import Derived.Laws.IdiomStrings
namespace Go.SX
noncomputable section
theorem den_sv {env : Env} {h z i len : Nat} {cap : Option Nat} {x : Value} : Den env (.sv h z i len cap) x ↔ ∃ b o m C p c, env h = some (.slice (some ⟨b, o, none⟩) m C) ∧ x = .slice (some p) len c ∧ len ≤ c ∧ i + c ≤ C ∧ (cap = none → i + c = C) ∧ (∀ k, cap = some k → c = k) ∧ (0 < c → p = ⟨b, o + i * z, none⟩) := by
 simp only [Den]
theorem src_of {P : Program} {env : Env} {H : Heap} {F : Foot} {w : World} {y : AV} {x : Value} {r : Option Res} {z k : Nat} {ws : List AV} {t' : Nat} {T : Tab} (hT : TabOK P T) (hs : SatH env H F w) (hr : ∀ h, srcH y = some h → ∃ q, r = some q ∧ look H h = some q)
  (hd : Den env y x) (hrd : readsA z y r k = some ws) (hln : lenA y r = some k) (hk : (∃ e, kindOf T t' = .slice e) ∨ kindOf T t' = .str) (hl : ws.all leafA = true) :
  ∃ news, Src P z t' x k news w ∧ Dens env ws news := by
 obtain ⟨news, g1, g2, g3⟩ := readsA_ok (P := P) hs hr hd hrd hln (Nat.le_refl _)
 refine ⟨news, ⟨?_, lenA_ok hs hr hd hln, g1 w rfl, g1 w.drew rfl, g2, leaves_one hl g3⟩, g3⟩
 rcases hk with ⟨e, hk⟩ | hk
 ·obtain ⟨d, h4, h5⟩ := kindOf_ok hT hk (by simp)
  simp only [KindOK] at h5; subst h5
  exact .inl ⟨e, h4⟩
 ·obtain ⟨d, h4, h5⟩ := kindOf_ok hT hk (by simp)
  simp only [KindOK] at h5; subst h5
  exact .inr h4
def isAppend (o : Oper) (x y : Operand) (t t' : Nat) : Prop := o.op = .call { callee := .builtin .append, args := #[x, y], argTypes := #[t, t'] }
theorem append_ex {P : Program} {o : Oper} {x y : Operand} {t t' : Nat} {a : Act} {w w' : World} {v : Value} (ho : isAppend o x y t t') (hrun : (Builtin.append_ #[t, t'] o.type #[a.eval x, a.eval y]).run P w = .ok v w') :
  (execOp a.eval o).run P w = .ok (.value v) w' := by
 simp only [isAppend] at ho
 simp only [execOp, ho, resolve, invoke, builtin, Sem.run_bind, Sem.run_pure, Result.andThen_ok]
 simp only [List.map_toArray, List.map_cons, List.map_nil]
 rw [hrun]; rfl
theorem elem_info {P : Program} {T : Tab} (hT : TabOK P T) {t e sz : Nat} {ag : Bool} {z : List AV} {kk : TK} (hk : kindOf T t = .slice e) (hr : T e = some ⟨ag, sz, z, kk⟩) (hzl : z.length = sz) :
  P.underlying t = some (.slice e) ∧ ∃ i zv, P.info? e = some i ∧ i.size = sz ∧ i.zero = some zv ∧ zv.cells.size = sz ∧ (∀ env, Dens env z zv.cells.toList) ∧ i.bytes ≤ 32 * sz := by
 obtain ⟨d, hu, h5⟩ := kindOf_ok hT hk (by simp)
 simp only [KindOK] at h5; subst h5
 obtain ⟨⟨i, zv, g1, g2, g3, g4, g5, g6⟩, _⟩ := hT e _ hr
 simp only at g2 g5
 refine ⟨hu, i, zv, g1, g2, g3, ?_, g5, by rw [← g2]; exact g6⟩
 have := (g5 (fun _ => none)).length
 rw [hzl] at this; simpa using this.symm
theorem grow_bound {a b bytes sz : Nat} (h : bytes ≤ 32 * sz) (hroom : a * sz ≤ room) (hb : b < a) (hz0 : 0 < sz) : Builtin.nextslicecap a b * bytes ≤ 281474976710656 ∧ ((a : Nat) : Int) ≤ 9223372036854775807 := by
 refine ⟨growslice_fits hb ?_, ?_⟩
 ·have : a * bytes ≤ a * (32 * sz) := Nat.mul_le_mul_left _ h
  have h32 : a * (32 * sz) = 32 * (a * sz) := by rw [Nat.mul_left_comm]
  unfold room at hroom; omega
 ·have : a ≤ a * sz := Nat.le_mul_of_pos_right _ hz0
  unfold room at hroom; omega
theorem zeroCells_size (z : Array Value) (n : Nat) : (Builtin.zeroCells z n).size = n * z.size := by simp [Builtin.zeroCells]
theorem triple_app_zero {P : Program} {T : Tab} (hT : TabOK P T) {o : Oper} {fr : Fr} {n h t t' e sz i len zz : Nat} {c : Option Nat} {ag : Bool} {z : List AV} {kk : TK} {x y : Operand} {R : Heap} {yv : AV} {r : Option Res}
  (ho : isAppend o x y t t') (hx : ev fr x = some (.sv h zz i len c)) (hy : ev fr y = some yv) (hk : kindOf T t = .slice e) (hr : T e = some ⟨ag, sz, z, kk⟩) (hzl : z.length = sz)
  (hk' : (∃ e, kindOf T t' = .slice e) ∨ kindOf T t' = .str) (hsr : ∀ h, srcH yv = some h → ∃ q, r = some q ∧ look R h = some q) (hln : lenA yv r = some 0) (hrd : readsA sz yv r 0 = some []) :
  Triple P o fr R [] n n (.sv h zz i len c) [] := by
 intro env F a w next Q hn hs hfresh hkk
 have hd1 := ev_den hn (by rw [ho]; simp [Op.operands, Call.operands]) hx
 have hd2 := ev_den hn (by rw [ho]; simp [Op.operands, Call.operands]) hy
 obtain ⟨hu, iv, zv, g1, g2, g3, g4, g5, g6⟩ := elem_info hT hk hr hzl
 obtain ⟨news, hsrc, hden⟩ := src_of (P := P) hT (H := R) (by simpa using hs) hsr hd2 hrd hln hk' rfl
 have hd1' := hd1
 simp only [Den] at hd1'
 obtain ⟨b, o1, m, C, p, cc, q1, q2, q3, q4, q5, q6, q7⟩ := hd1'
 have hn0 : news = [] := List.eq_nil_of_length_eq_zero (by have := hsrc.newsLen; simpa using this)
 subst hn0
 have hrun : (Builtin.append_ #[t, t'] o.type #[a.eval x, a.eval y]).run P w = .ok (a.eval x) w := by
  rw [q2]
  rcases hsrc.kind with ⟨e', hk⟩ | hk <;> simp [Builtin.append_, run_underlying hu, run_underlying hk, sizeOf, typeInfo, g1, g2, hsrc.len, q3, hsrc.cells, storeCells]
 unfold Oper.wp
 rw [append_ex ho hrun]
 exact hkk env F _ w (Turn.refl _ _ _ _ _) hd1
theorem triple_app_in {P : Program} {T : Tab} (hT : TabOK P T) {o : Oper} {fr : Fr} {n h t t' e e0 sz i len k : Nat} {c rc : Option Nat} {ag : Bool} {z ws cs : List AV} {kk : TK} {x y : Operand} {R : Heap} {yv : AV} {r : Option Res}
  (ho : isAppend o x y t t') (hx : ev fr x = some (.sv h sz i len c)) (hy : ev fr y = some yv) (hk : kindOf T t = .slice e) (hr : T e = some ⟨ag, sz, z, kk⟩) (hzl : z.length = sz)
  (hk' : (∃ e, kindOf T t' = .slice e) ∨ kindOf T t' = .str) (hsr : ∀ h', srcH yv = some h' → ∃ q, r = some q ∧ look ([(h, .row e0 sz cs rc)] ++ R) h' = some q) (hln : lenA yv r = some k) (hrd : readsA sz yv r k = some ws) (hl : ws.all leafA = true)
  (hz0 : 0 < sz) (hk0 : 0 < k) (hin : (i + len) * sz ≤ cs.length) (hfit : (∃ cv, c = some cv ∧ len + k ≤ cv) ∨ (c = none ∧ (i + len + k) * sz ≤ cs.length)) :
  Triple P o fr R [(h, .row e0 sz cs rc)] n n (.sv h sz i (len + k) c) [(h, .row e0 sz (splice cs ((i + len) * sz) ws) rc)] := by
 intro env F a w next Q hn hs hfresh hkk
 have hd1 := ev_den hn (by rw [ho]; simp [Op.operands, Call.operands]) hx
 have hd2 := ev_den hn (by rw [ho]; simp [Op.operands, Call.operands]) hy
 obtain ⟨hu, iv, zv, g1, g2, g3, g4, g5, g6⟩ := elem_info hT hk hr hzl
 obtain ⟨news, hsrc, hden⟩ := src_of (P := P) hT hs hsr hd2 hrd hln hk' hl
 simp only [Den] at hd1
 obtain ⟨b, o1, m, C, p, cc, q1, q2, q3, q4, q5, q6, q7⟩ := hd1
 obtain ⟨v1, hv1, s1⟩ := hs.sat (h := h) (r := .row e0 sz cs rc) (by simp [lookC, Nat.beq_refl])
 rw [q1] at hv1; cases hv1
 obtain ⟨b', o', m', C', xs, lo, hi, ys, tl, rw1⟩ := rowAt.1 s1
 have hval := rw1.val
 simp only [Value.slice.injEq, Option.some.injEq, Addr.mk.injEq] at hval
 obtain ⟨⟨rfl, rfl, -⟩, rfl, rfl⟩ := hval
 have hlen := rw1.len
 have hcc : len + k ≤ cc := by
  rcases hfit with ⟨cv, rfl, h2⟩ | ⟨rfl, h2⟩
  ·rw [q6 cv rfl]; exact h2
  ·have e1 := q5 rfl
   have : (i + len + k) * sz ≤ C * sz := by omega
   have := Nat.le_of_mul_le_mul_right this hz0
   omega
 have hpp := q7 (by omega)
 subst hpp
 have hwl := hden.length
 have hnl := hsrc.newsLen
 have hfit2 : (i + len) * sz + ws.length ≤ C * sz := by
  rw [hwl, hnl, ← Nat.add_mul]
  exact Nat.mul_le_mul_right _ (by omega)
 obtain ⟨w', F', hst, ht⟩ := Turn.row_write (n := n) hs q1 hin hfit2 hden hsrc.one
 have hst := hst P
 have hrun : (Builtin.append_ #[t, t'] o.type #[a.eval x, a.eval y]).run P w = .ok (.slice (some ⟨b, o1 + i * sz, none⟩) (len + k) cc) w' := by
  rw [q2]
  have ea : o1 + i * sz + len * sz = o1 + (i + len) * sz := by rw [Nat.add_mul]; omega
  rcases hsrc.kind with ⟨e', hk⟩ | hk <;> simp [Builtin.append_, run_underlying hu, run_underlying hk, sizeOf, typeInfo, g1, g2, hsrc.len, hcc, hsrc.cells, addr_add, ea, hst]
 unfold Oper.wp
 rw [append_ex ho hrun]
 refine hkk env F' _ w' ht ?_
 simp only [Den]
 exact ⟨b, o1, m, C, _, cc, q1, rfl, hcc, q4, q5, q6, fun _ => rfl⟩
theorem triple_app_new {P : Program} {T : Tab} (hT : TabOK P T) {o : Oper} {fr : Fr} {n t t' e sz k len : Nat} {ag : Bool} {z ws os : List AV} {kk : TK} {x y : Operand} {R : Heap} {xv yv : AV} {rx r : Option Res}
  (ho : isAppend o x y t t') (hx : ev fr x = some xv) (hy : ev fr y = some yv) (hk : kindOf T t = .slice e) (hr : T e = some ⟨ag, sz, z, kk⟩) (hzl : z.length = sz)
  (hk' : (∃ e, kindOf T t' = .slice e) ∨ kindOf T t' = .str) (hsx : ∀ h', srcH xv = some h' → ∃ q, rx = some q ∧ look R h' = some q) (hsr : ∀ h', srcH yv = some h' → ∃ q, r = some q ∧ look R h' = some q)
  (hlx : lenA xv rx = some len) (hrx : readsA sz xv rx len = some os) (hln : lenA yv r = some k) (hrd : readsA sz yv r k = some ws) (hl : ws.all leafA = true)
  (hz0 : 0 < sz) (hk0 : 0 < k) (hroom : (len + k) * sz ≤ room) (hcap : (xv = .nils) ∨ (∃ h zz i cv, xv = .sv h zz i len (some cv) ∧ cv < len + k)) :
  Triple P o fr R [] n (n + 1) (.sv n sz 0 (len + k) none) [(n, .row e sz (os ++ ws) none)] := by
 intro env F a w next Q hn hs hfresh hkk
 have hn' := hfresh n (Nat.le_refl _) (by omega)
 have hd1 := ev_den hn (by rw [ho]; simp [Op.operands, Call.operands]) hx
 have hd2 := ev_den hn (by rw [ho]; simp [Op.operands, Call.operands]) hy
 obtain ⟨hu, iv, zv, g1, g2, g3, g4, g5, g6⟩ := elem_info hT hk hr hzl
 have hs' : SatH env R F w := by simpa using hs
 obtain ⟨news, hsrc, hden⟩ := src_of (P := P) hT hs' hsr hd2 hrd hln hk' hl
 obtain ⟨olds, ho1, ho2, ho3⟩ := readsA_ok (P := P) hs' hsx hd1 hrx hlx (Nat.le_refl _)
 have hxv : ∃ base cc, a.eval x = .slice base len cc ∧ cc < len + k := by
  rcases hcap with rfl | ⟨h, zz, i, cv, rfl, hcv⟩
  ·simp only [Den] at hd1
   simp only [lenA, Option.some.injEq] at hlx
   subst hlx
   exact ⟨none, 0, hd1, by omega⟩
  ·simp only [Den] at hd1
   obtain ⟨b, o1, m, C, p, cc, q1, q2, q3, q4, q5, q6, q7⟩ := hd1
   exact ⟨_, _, q2, by rw [q6 cv rfl]; exact hcv⟩
 obtain ⟨base, cc, hxe, hcc⟩ := hxv
 obtain ⟨b1, b2⟩ := grow_bound g6 hroom hcc hz0
 have hold := ho1 w.drew rfl
 rw [hxe] at hold
 rw [← g2] at hsrc hold
 have hrun := run_append_grow_src (P := P) w t t' o.type e iv zv hu g1 g3 base len cc olds hold (a.eval y) k news hsrc hcc b2 b1
 unfold Oper.wp
 rw [append_ex ho (by rw [hxe]; exact hrun)]
 have hge := grownCap_ge w (len + k) cc e
 have hnl := hsrc.newsLen
 rw [g2] at hnl
 have hmul : len * sz + k * sz + (grownCap w (len + k) cc e - (len + k)) * sz = grownCap w (len + k) cc e * sz := by
  rw [← Nat.add_mul, ← Nat.add_mul]; congr 1; omega
 refine hkk _ _ _ _ (Turn.row_new (w1 := w.drew) (ys := olds ++ news) (tl := (Builtin.zeroCells zv.cells (grownCap w (len + k) cc e - (len + k))).toList) (lo := 0) (hi := 0) (C := grownCap w (len + k) cc e) hn' ⟨rfl, rfl, rfl, rfl⟩ ?_ ?_ (ho3.append hden) (.inr (Nat.le_refl _)) (fun k hk => by cases hk))
  (sv_new hge (fun k hk => by cases hk))
 ·simp [zeroCells_size, g4, ho2, hnl]; exact hmul
 ·simp
theorem triple_app_open {P : Program} {T : Tab} (hT : TabOK P T) {o : Oper} {fr : Fr} {n h t t' e sz i len k : Nat} {rc : Option Nat} {ag : Bool} {z ws cs : List AV} {kk : TK} {x y : Operand} {R : Heap} {yv : AV} {r : Option Res}
  (ho : isAppend o x y t t') (hx : ev fr x = some (.sv h sz i len none)) (hy : ev fr y = some yv) (hk : kindOf T t = .slice e) (hr : T e = some ⟨ag, sz, z, kk⟩) (hzl : z.length = sz)
  (hk' : (∃ e, kindOf T t' = .slice e) ∨ kindOf T t' = .str) (hsr : ∀ h', srcH yv = some h' → ∃ q, r = some q ∧ look ([(h, .row e sz cs rc)] ++ R) h' = some q) (hln : lenA yv r = some k) (hrd : readsA sz yv r k = some ws) (hl : ws.all leafA = true)
  (hz0 : 0 < sz) (hk0 : 0 < k) (hin : (i + len) * sz ≤ cs.length) (hroom : (len + k) * sz ≤ room) :
  Triple P o fr R [(h, .row e sz cs rc)] n (n + 1) (.sv n sz 0 (len + k) none) [(h, .gone), (n, .row e sz ((cs.drop (i * sz)).take (len * sz) ++ ws) none)] := by
 intro env F a w next Q hn hs hfresh hkk
 have hn' := hfresh n (Nat.le_refl _) (by omega)
 have hd1 := ev_den hn (by rw [ho]; simp [Op.operands, Call.operands]) hx
 have hd2 := ev_den hn (by rw [ho]; simp [Op.operands, Call.operands]) hy
 obtain ⟨hu, iv, zv, g1, g2, g3, g4, g5, g6⟩ := elem_info hT hk hr hzl
 obtain ⟨news, hsrc, hden⟩ := src_of (P := P) hT hs hsr hd2 hrd hln hk' hl
 have hlk : look ([(h, Res.row e sz cs rc)] ++ R) h = some (.row e sz cs rc) := by simp [lookC, Nat.beq_refl]
 obtain ⟨olds, ho1, ho2, ho3⟩ := readsA_ok (P := P) (y := .sv h sz i len none) (r := some (.row e sz cs rc)) (z := sz) (k := len) (n := len) (ws := (cs.drop (i * sz)).take (len * sz)) hs
  (fun h' hh => by simp only [srcH, Option.some.injEq] at hh; subst hh; exact ⟨_, rfl, hlk⟩) hd1 (by
   unfold readsA
   have : Nat.ble (i * sz + len * sz) cs.length = true := Nat.ble_eq_true_of_le (by rw [← Nat.add_mul]; exact hin)
   simp only [Nat.beq_refl, this, Bool.and_self]) rfl (Nat.le_refl _)
 obtain ⟨b, o1, m, C, p, cc, q1, q2, q3, q4, q5, q6, q7⟩ := den_sv.1 hd1
 have q5 := q5 rfl
 obtain ⟨v1, hv1, s1⟩ := hs.sat hlk
 rw [q1] at hv1; cases hv1
 obtain ⟨b', o', m', C', xs, lo, hi, ys, tl, rw1⟩ := rowAt.1 s1
 have hval := rw1.val
 simp only [Value.slice.injEq, Option.some.injEq, Addr.mk.injEq] at hval
 obtain ⟨⟨rfl, rfl, -⟩, rfl, rfl⟩ := hval
 have hlen := rw1.len
 have hnl := hsrc.newsLen
 have hwl := hden.length
 have hne : h ≠ n := by rintro rfl; rw [hn'] at q1; cases q1
 by_cases hfit : len + k ≤ cc
 ·-- in its place
  have hpp := q7 (by omega)
  subst hpp
  have hfit2 : (i + len) * sz + ws.length ≤ C * sz := by
   rw [hwl, hnl, ← Nat.add_mul]
   exact Nat.mul_le_mul_right _ (by omega)
  obtain ⟨w', F', hst, ht⟩ := Turn.row_write (n := n) hs q1 hin hfit2 hden hsrc.one
  have hst := hst P
  have hrun : (Builtin.append_ #[t, t'] o.type #[a.eval x, a.eval y]).run P w = .ok (.slice (some ⟨b, o1 + i * sz, none⟩) (len + k) cc) w' := by
   rw [q2]
   have ea : o1 + i * sz + len * sz = o1 + (i + len) * sz := by rw [Nat.add_mul]; omega
   rcases hsrc.kind with ⟨e', hk⟩ | hk <;> simp [Builtin.append_, run_underlying hu, run_underlying hk, sizeOf, typeInfo, g1, g2, hsrc.len, hfit, hsrc.cells, addr_add, ea, hst]
  unfold Oper.wp
  rw [append_ex ho hrun]
  obtain ⟨v2, hv2, s2⟩ := ht.sat.sat (h := h) (r := .row e sz (splice cs ((i + len) * sz) ws) rc) (by simp [lookC, Nat.beq_refl])
  rw [q1] at hv2; cases hv2
  obtain ⟨b2, o2, m2, C2, xs2, lo2, hi2, ys2, tl2, rw2⟩ := rowAt.1 s2
  have hval := rw2.val
  simp only [Value.slice.injEq, Option.some.injEq, Addr.mk.injEq] at hval
  obtain ⟨⟨rfl, rfl, -⟩, rfl, rfl⟩ := hval
  have hle := Env.le_set (v := .slice (some ⟨b, o1 + i * sz, none⟩) (len + k) cc) hn'
  have hspl : splice cs ((i + len) * sz) ws = cs.take ((i + len) * sz) ++ (ws ++ cs.drop ((i + len) * sz + ws.length)) := splice_def _ _ _
  have hcut : ((splice cs ((i + len) * sz) ws).drop (i * sz)).take (len * sz + ws.length) = (cs.drop (i * sz)).take (len * sz) ++ ws := by
   rw [hspl, ← List.append_assoc, List.drop_append_of_le_length (by simp [Nat.add_mul] at hin ⊢; omega), List.drop_append_of_le_length (by simp [Nat.add_mul] at hin ⊢; omega)]
   rw [Nat.add_mul, List.drop_take, Nat.add_sub_cancel_left]
   apply List.take_left'
   simp [Nat.add_mul] at hin ⊢; omega
  have hd2' : Dens env ((cs.drop (i * sz)).take (len * sz) ++ ws) ((ys2.drop (i * sz)).take (len * sz + ws.length)) := by
   rw [← hcut]; exact (rw2.den.drop _).take _
  have hl2 := rw2.den.length
  have hsl : (splice cs ((i + len) * sz) ws).length ≥ (i + len) * sz + ws.length := by rw [hspl]; simp; omega
  refine hkk (env.set n (.slice (some ⟨b, o1 + i * sz, none⟩) (len + k) cc)) (fun j x => j = n ∧ x = b) _ w' ⟨hle, ?_, ⟨?_, ?_⟩, ?_, ht.frame⟩ ?_
  ·intro j hj; unfold Env.set; rw [if_neg (by omega)]
  ·intro j r' hl'
   rw [look_cons] at hl'
   split at hl'
   ·rename_i ej; subst ej; cases hl'
    exact ⟨_, hle _ _ q1, fun x hx => hne hx.1⟩
   ·obtain ⟨rfl, rfl⟩ := look_one hl'
    refine ⟨_, Env.set_same _ _ _, rowAt.2 ⟨b, o1 + i * sz, len + k, cc, xs2, lo2, hi2, (ys2.drop (i * sz)).take (len * sz + ws.length), ys2.drop (i * sz + (len * sz + ws.length)) ++ tl2, rfl, fun x => by simp, rw2.at_, rw2.fz, ?_, ?_, Dens.mono hle _ hd2', fun _ hk => by cases hk⟩⟩
    ·rw [rw2.size, Nat.add_assoc, ← Nat.add_mul]; congr 2; omega
    ·rw [← List.drop_drop, rw2.split, List.drop_append_of_le_length (by rw [← hl2]; simp [Nat.add_mul] at hsl ⊢; omega), ← List.append_assoc, ← List.drop_drop, List.take_append_drop]
  ·intro j r1 j' r2 hl1 hl2 hne' _ x hx hx'
   exact hne' (hx.1.trans hx'.1.symm)
  ·intro j r' x hl' hx
   refine .inl ⟨h, .row e sz cs rc, by simp [lookC, Nat.beq_refl], (rw1.foot x).2 hx.2, fun _ => rfl⟩
  ·exact den_sv.2 ⟨b, o1 + i * sz, len + k, cc, _, cc, Env.set_same _ _ _, rfl, hfit, by omega, fun _ => by omega, fun _ hk => (by cases hk), fun _ => by simp⟩
 ·-- in a new one
  obtain ⟨b1, b2⟩ := grow_bound (b := cc) g6 hroom (by omega) hz0
  have hold := ho1 w.drew rfl
  rw [q2] at hold
  rw [← g2] at hsrc hold
  have hrun := run_append_grow_src (P := P) w t t' o.type e iv zv hu g1 g3 (some p) len cc olds hold (a.eval y) k news hsrc (by omega) b2 b1
  unfold Oper.wp
  rw [append_ex ho (by rw [q2]; exact hrun)]
  have hge := grownCap_ge w (len + k) cc e
  have hmul : len * sz + k * sz + (grownCap w (len + k) cc e - (len + k)) * sz = grownCap w (len + k) cc e * sz := by
   rw [← Nat.add_mul, ← Nat.add_mul]; congr 1; omega
  have ht := Turn.row_new (n := n) (R := R) (F := F) (w1 := w.drew) (w := w) (e := e) (z := sz) (m := len + k) (cap := none) (xs := (olds ++ news).toArray ++ Builtin.zeroCells zv.cells (grownCap w (len + k) cc e - (len + k))) (ys := olds ++ news)
   (tl := (Builtin.zeroCells zv.cells (grownCap w (len + k) cc e - (len + k))).toList) (lo := 0) (hi := 0) (C := grownCap w (len + k) cc e) hn' ⟨rfl, rfl, rfl, rfl⟩
   (by simp [zeroCells_size, g4, ho2, hnl]; exact hmul) (by simp) (ho3.append hden) (.inr (Nat.le_refl _)) (fun k hk => by cases hk)
  refine hkk _ (fun j x => j = n ∧ x = w.heap.size) _ _ ⟨ht.le, ht.only, ⟨?_, ?_⟩, ?_, ht.frame.mono ?_⟩ (sv_new hge (fun k hk => by cases hk))
  ·intro j r' hl'
   rw [look_cons] at hl'
   split at hl'
   ·rename_i ej; subst ej; cases hl'
    exact ⟨_, ht.le _ _ q1, fun x hx => hne hx.1⟩
   ·obtain ⟨rfl, rfl⟩ := look_one hl'
    obtain ⟨v2, hv2, s2⟩ := ht.sat.sat (look_self _ _)
    refine ⟨v2, hv2, ?_⟩
    have : (fun x => j = j ∧ x = w.heap.size) = fun x => x = w.heap.size := by funext x; simp
    rw [this]; exact s2
  ·intro j r1 j' r2 hl1 hl2 hne' _ x hx hx'
   exact hne' (hx.1.trans hx'.1.symm)
  ·intro j r' x hl' hx
   exact .inr (.inr (Nat.le_of_eq hx.2.symm))
  ·rintro x ⟨j, r', hl', _, _⟩
   simp [lookN] at hl'
where
 look_self {α : Type} (k : Nat) (v : α) : look [(k, v)] k = some v := by simp [lookC, Nat.beq_refl]
end
end Go.SX
namespace Go.SX
noncomputable section
theorem row_of {env : Env} {H : Heap} {F : Foot} {w : World} {h e0 z i len : Nat} {c rc : Option Nat} {cs : List AV} {x : Value} (hs : SatH env H F w) (hl : look H h = some (.row e0 z cs rc)) (hd : Den env (.sv h z i len c) x) :
  ∃ b o m C p cc xs lo hi ys tl, env h = some (.slice (some ⟨b, o, none⟩) m C) ∧ x = .slice (some p) len cc ∧ len ≤ cc ∧ i + cc ≤ C ∧ (c = none → i + cc = C) ∧ (∀ k, c = some k → cc = k) ∧ (0 < cc → p = ⟨b, o + i * z, none⟩) ∧
   RowAt env (.slice (some ⟨b, o, none⟩) m C) (F h) w e0 z cs rc b o m C xs lo hi ys tl := by
 obtain ⟨b, o1, m, C, p, cc, q1, q2, q3, q4, q5, q6, q7⟩ := den_sv.1 hd
 obtain ⟨v1, hv1, s1⟩ := hs.sat hl
 rw [q1] at hv1; cases hv1
 obtain ⟨b', o', m', C', xs, lo, hi, ys, tl, rw1⟩ := rowAt.1 s1
 have hval := rw1.val
 simp only [Value.slice.injEq, Option.some.injEq, Addr.mk.injEq] at hval
 obtain ⟨⟨rfl, rfl, -⟩, rfl, rfl⟩ := hval
 exact ⟨b, o1, m, C, p, cc, xs, lo, hi, ys, tl, q1, q2, q3, q4, q5, q6, q7, rw1⟩
theorem copy_ex {P : Program} {o : Oper} {x y : Operand} {t t' : Nat} {a : Act} {w w' : World} {v : Value} (ho : o.op = .call { callee := .builtin .copy, args := #[x, y], argTypes := #[t, t'] }) (hrun : (Builtin.copy_ #[t, t'] o.type #[a.eval x, a.eval y]).run P w = .ok v w') :
  (execOp a.eval o).run P w = .ok (.value v) w' := by
 simp only [execOp, ho, resolve, invoke, builtin, Sem.run_bind, Sem.run_pure, Result.andThen_ok]
 simp only [List.map_toArray, List.map_cons, List.map_nil]
 rw [hrun]; rfl
theorem triple_copy_row {P : Program} {T : Tab} (hT : TabOK P T) {o : Oper} {fr : Fr} {n h t t' e e0 sz i len l2 k : Nat} {c rc : Option Nat} {ag : Bool} {z ws cs : List AV} {kk : TK} {x y : Operand} {R : Heap} {yv : AV} {r : Option Res}
  (ho : o.op = .call { callee := .builtin .copy, args := #[x, y], argTypes := #[t, t'] }) (hx : ev fr x = some (.sv h sz i len c)) (hy : ev fr y = some yv) (hk : kindOf T t = .slice e) (hr : T e = some ⟨ag, sz, z, kk⟩) (hzl : z.length = sz)
  (hsr : ∀ h', srcH yv = some h' → ∃ q, r = some q ∧ look ([(h, .row e0 sz cs rc)] ++ R) h' = some q) (hln : lenA yv r = some l2) (hkm : k = min l2 len) (hrd : readsA sz yv r k = some ws) (hl : ws.all leafA = true)
  (hk0 : 0 < k) (hin : i * sz ≤ cs.length) :
  Triple P o fr R [(h, .row e0 sz cs rc)] n n (.int .i64 k) [(h, .row e0 sz (splice cs (i * sz) ws) rc)] := by
 intro env F a w next Q hn hs hfresh hkk
 have hd1 := ev_den hn (by rw [ho]; simp [Op.operands, Call.operands]) hx
 have hd2 := ev_den hn (by rw [ho]; simp [Op.operands, Call.operands]) hy
 obtain ⟨hu, iv, zv, g1, g2, g3, g4, g5, g6⟩ := elem_info hT hk hr hzl
 have hlk : look ([(h, Res.row e0 sz cs rc)] ++ R) h = some (.row e0 sz cs rc) := by simp [lookC, Nat.beq_refl]
 obtain ⟨b, o1, m, C, p, cc, xs, lo, hi, ys, tl, q1, q2, q3, q4, q5, q6, q7, rw1⟩ := row_of hs hlk hd1
 have hlen := rw1.len
 obtain ⟨news, r1, r2, r3⟩ := readsA_ok (P := P) hs hsr hd2 hrd hln (by omega)
 have hl2 := lenA_ok (P := P) hs hsr hd2 hln w
 have hpp := q7 (by omega)
 subst hpp
 have hwl := r3.length
 have hfit2 : i * sz + ws.length ≤ C * sz := by
  rw [hwl, r2, ← Nat.add_mul]
  exact Nat.mul_le_mul_right _ (by omega)
 obtain ⟨w', F', hst, ht⟩ := Turn.row_write (n := n) hs q1 hin hfit2 r3 (leaves_one hl r3)
 have hst := hst P
 have r1 := r1 w rfl
 have hmin : Nat.min l2 len = k := hkm.symm
 have hrun : (Builtin.copy_ #[t, t'] o.type #[a.eval x, a.eval y]).run P w = .ok (goInt k) w' := by
  rw [q2]
  simp [Builtin.copy_, run_underlying hu, hl2, hmin, sizeOf, typeInfo, g1, g2, r1, hst]
 unfold Oper.wp
 rw [copy_ex ho hrun]
 exact hkk env F' _ w' ht (by simp only [Den, goInt])
theorem triple_copy_box {P : Program} {T : Tab} (hT : TabOK P T) {o : Oper} {fr : Fr} {n h t t' e e0 sz off len cap l2 k : Nat} {ag : Bool} {z ws cs : List AV} {kk : TK} {x y : Operand} {R : Heap} {yv : AV} {r : Option Res}
  (ho : o.op = .call { callee := .builtin .copy, args := #[x, y], argTypes := #[t, t'] }) (hx : ev fr x = some (.slc h off len cap)) (hy : ev fr y = some yv) (hk : kindOf T t = .slice e) (hr : T e = some ⟨ag, sz, z, kk⟩) (hzl : z.length = sz)
  (hsr : ∀ h', srcH yv = some h' → ∃ q, r = some q ∧ look ([(h, .box e0 cs)] ++ R) h' = some q) (hln : lenA yv r = some l2) (hkm : k = min l2 len) (hrd : readsA sz yv r k = some ws) (hl : ws.all leafA = true)
  (hin : off + k * sz ≤ cs.length) :
  Triple P o fr R [(h, .box e0 cs)] n n (.int .i64 k) [(h, .box e0 (splice cs off ws))] := by
 intro env F a w next Q hn hs hfresh hkk
 have hd1 := ev_den hn (by rw [ho]; simp [Op.operands, Call.operands]) hx
 have hd2 := ev_den hn (by rw [ho]; simp [Op.operands, Call.operands]) hy
 obtain ⟨hu, iv, zv, g1, g2, g3, g4, g5, g6⟩ := elem_info hT hk hr hzl
 simp only [Den] at hd1
 obtain ⟨b, hb, hx'⟩ := hd1
 have hlk : look ([(h, Res.box e0 cs)] ++ R) h = some (.box e0 cs) := by simp [lookC, Nat.beq_refl]
 obtain ⟨v1, hv1, b1, xs, e1, e2, e3, e4⟩ := hs.sat hlk
 rw [hb] at hv1; cases hv1; cases e1
 obtain ⟨news, r1, r2, r3⟩ := readsA_ok (P := P) hs hsr hd2 hrd hln (by omega)
 have hl2 := lenA_ok (P := P) hs hsr hd2 hln w
 have hwl := r3.length
 have hlen := e4.length
 have hst := run_storeCells_at P b off e0 news 0 xs w e3 (by simp at hlen; omega) (leaves_one hl r3)
 simp only [Nat.add_zero] at hst
 have r1 := r1 w rfl
 have hmin : Nat.min l2 len = k := hkm.symm
 have hrun : (Builtin.copy_ #[t, t'] o.type #[a.eval x, a.eval y]).run P w = .ok (goInt k) (w.setRow b (xs.toList.take off ++ news ++ xs.toList.drop (off + news.length)).toArray) := by
  rw [hx']
  simp [Builtin.copy_, run_underlying hu, hl2, hmin, sizeOf, typeInfo, g1, g2, r1, hst]
 unfold Oper.wp
 rw [copy_ex ho hrun]
 have hdd := splice_den e4 r3 off
 exact hkk env _ _ _ (Turn.write hs hb e3 (by simpa [List.append_assoc] using hdd)) (by simp only [Den, goInt])
theorem triple_copy_zero {P : Program} {T : Tab} (hT : TabOK P T) {o : Oper} {fr : Fr} {n t t' e sz l1 l2 : Nat} {ag : Bool} {z : List AV} {kk : TK} {x y : Operand} {R : Heap} {xv yv : AV} {rx r : Option Res}
  (ho : o.op = .call { callee := .builtin .copy, args := #[x, y], argTypes := #[t, t'] }) (hx : ev fr x = some xv) (hy : ev fr y = some yv) (hk : kindOf T t = .slice e) (hr : T e = some ⟨ag, sz, z, kk⟩) (hzl : z.length = sz)
  (hsx : ∀ h', srcH xv = some h' → ∃ q, rx = some q ∧ look R h' = some q) (hsr : ∀ h', srcH yv = some h' → ∃ q, r = some q ∧ look R h' = some q) (hlx : lenA xv rx = some l1) (hln : lenA yv r = some l2) (hk0 : min l2 l1 = 0)
  (hns : ∀ s, xv ≠ .str s) (hrd : readsA sz yv r 0 = some []) :
  Triple P o fr R [] n n (.int .i64 0) [] := by
 intro env F a w next Q hn hs hfresh hkk
 have hd1 := ev_den hn (by rw [ho]; simp [Op.operands, Call.operands]) hx
 have hd2 := ev_den hn (by rw [ho]; simp [Op.operands, Call.operands]) hy
 obtain ⟨hu, iv, zv, g1, g2, g3, g4, g5, g6⟩ := elem_info hT hk hr hzl
 have hs' : SatH env R F w := by simpa using hs
 obtain ⟨news, r1, r2, r3⟩ := readsA_ok (P := P) hs' hsr hd2 hrd hln (Nat.zero_le _)
 have hl1 := lenA_ok (P := P) hs' hsx hd1 hlx w
 have hl2 := lenA_ok (P := P) hs' hsr hd2 hln w
 have r1 := r1 w rfl
 have hn0 : news = [] := List.eq_nil_of_length_eq_zero (by simpa using r2)
 subst hn0
 have hxe : ∃ base cc, a.eval x = .slice base l1 cc := by
  unfold lenA at hlx
  split at hlx
  ·cases hlx; simp only [Den] at hd1; exact ⟨_, _, hd1⟩
  ·rename_i s; exact absurd rfl (hns s)
  ·cases hlx; obtain ⟨b, o1, m, C, p, cc, q1, q2, _⟩ := den_sv.1 hd1; exact ⟨_, _, q2⟩
  ·cases hlx; simp only [Den] at hd1; obtain ⟨_, _, h⟩ := hd1; exact ⟨_, _, h⟩
  ·rename_i h len D
   split at hlx
   ·rename_i k hk
    cases hlx
    simp only [Den] at hd1
    obtain ⟨q, hq, hlk⟩ := hsx h rfl
    cases hq
    obtain ⟨v1, hv1, s1⟩ := hs'.sat hlk
    rw [hd1.1] at hv1; cases hv1
    obtain ⟨p, cap, hv, _⟩ := D.reads _ hk s1
    exact ⟨_, _, hv⟩
   ·cases hlx
  ·cases hlx
 obtain ⟨base, cc, hxe⟩ := hxe
 have hmin : Nat.min l2 l1 = 0 := hk0
 have hrun : (Builtin.copy_ #[t, t'] o.type #[a.eval x, a.eval y]).run P w = .ok (goInt 0) w := by
  rw [hxe]
  cases base <;> simp [Builtin.copy_, run_underlying hu, hl2, hmin, sizeOf, typeInfo, g1, g2, r1, storeCells]
 unfold Oper.wp
 rw [copy_ex ho hrun]
 exact hkk env F _ w (Turn.refl _ _ _ _ _) (by simp [Den, goInt])
theorem triple_clear_row {P : Program} {T : Tab} (hT : TabOK P T) {o : Oper} {fr : Fr} {n h t e e0 sz i len : Nat} {c rc : Option Nat} {ag : Bool} {z cs : List AV} {kk : TK} {x : Operand}
  (ho : o.op = .call { callee := .builtin .clear, args := #[x], argTypes := #[t] }) (hx : ev fr x = some (.sv h sz i len c)) (hk : kindOf T t = .slice e) (hr : T e = some ⟨ag, sz, z, kk⟩) (hzl : z.length = sz)
  (hl : z.all leafA = true) (hz0 : 0 < sz) (hk0 : 0 < len) (hin : i * sz ≤ cs.length) :
  Triple P o fr [] [(h, .row e0 sz cs rc)] n n (.tup []) [(h, .row e0 sz (splice cs (i * sz) (repA len sz z)) rc)] := by
 intro env F a w next Q hn hs hfresh hkk
 have hd1 := ev_den hn (by rw [ho]; simp [Op.operands, Call.operands]) hx
 obtain ⟨hu, iv, zv, g1, g2, g3, g4, g5, g6⟩ := elem_info hT hk hr hzl
 have hlk : look ([(h, Res.row e0 sz cs rc)] ++ []) h = some (.row e0 sz cs rc) := by simp [lookC, Nat.beq_refl]
 obtain ⟨b, o1, m, C, p, cc, xs, lo, hi, ys, tl, q1, q2, q3, q4, q5, q6, q7, rw1⟩ := row_of hs hlk hd1
 have hlen := rw1.len
 have hpp := q7 (by omega)
 subst hpp
 have hden : Dens env (repA len sz z) (Builtin.zeroCells zv.cells len).toList := by
  have := repA_den (env := env) (m := len) (g5 env) hzl (by
   have := Nat.mul_pos hk0 hz0; omega)
  unfold Builtin.zeroCells
  rw [g4] at this ⊢; exact this
 have hrl : (repA len sz z).length = len * sz := by simp [repA]
 have hfit2 : i * sz + (repA len sz z).length ≤ C * sz := by
  rw [hrl, ← Nat.add_mul]
  exact Nat.mul_le_mul_right _ (by omega)
 have hleaf : (repA len sz z).all leafA = true := by
  rw [List.all_eq_true]
  intro u hu
  unfold repA at hu
  rw [List.mem_map] at hu
  obtain ⟨j, _, rfl⟩ := hu
  rw [nth_eq]
  have hj : j % sz < z.length := by rw [hzl]; exact Nat.mod_lt _ hz0
  rw [List.getElem?_eq_getElem hj]
  exact List.all_eq_true.1 hl _ (List.getElem_mem hj)
 obtain ⟨w', F', hst, ht⟩ := Turn.row_write (n := n) hs q1 hin hfit2 hden (leaves_one hleaf hden)
 have hst := hst P
 have hlen0 : len ≠ 0 := by omega
 have hrun : (Builtin.clear_ #[t] o.type #[a.eval x]).run P w = .ok (.tuple #[]) w' := by
  rw [q2]
  obtain ⟨l', rfl⟩ : ∃ l', len = l' + 1 := ⟨len - 1, by omega⟩
  simp [Builtin.clear_, run_underlying hu, zeroValue, typeInfo, g1, g3, hst]
 unfold Oper.wp
 rw [show (execOp a.eval o).run P w = .ok (.value (.tuple #[])) w' by
  simp only [execOp, ho, resolve, invoke, builtin, Sem.run_bind, Sem.run_pure, Result.andThen_ok]
  simp only [List.map_toArray, List.map_cons, List.map_nil]
  rw [hrun]; rfl]
 exact hkk env F' _ w' ht (by simp only [Den]; exact ⟨#[], rfl, by simp [Dens]⟩)
theorem triple_b2s_row {P : Program} {T : Tab} (hT : TabOK P T) {o : Oper} {fr : Fr} {n h e0 i len s d e : Nat} {c rc : Option Nat} {x : Operand} {cs : List AV} {l : List Int}
  (ho : o.op = .convert s d x) (hx : ev fr x = some (.sv h 1 i len c)) (hs : kindOf T s = .slice e) (he : kindOf T e = .int .u8) (hd : kindOf T d = .str) (hl : intsL (cs.drop i) len = some l) (hle : i + len ≤ cs.length) :
  Triple P o fr [(h, .row e0 1 cs rc)] [] n n (.str (strOfNums l)) [] := by
 intro env F a w next Q hn hsat hfresh hk
 have hd1 := ev_den hn (by rw [ho]; simp [Op.operands]) hx
 have hlk : look ([] ++ [(h, Res.row e0 1 cs rc)]) h = some (.row e0 1 cs rc) := by simp [lookC, Nat.beq_refl]
 obtain ⟨b, o1, m, C, p, cc, xs, lo, hi, ys, tl, q1, q2, q3, q4, q5, q6, q7, rw1⟩ := row_of hsat hlk hd1
 obtain ⟨d1, hu1, k1⟩ := kindOf_ok hT hs (by simp)
 obtain ⟨d2, hu2, k2⟩ := kindOf_ok hT he (by simp)
 obtain ⟨d3, hu3, k3⟩ := kindOf_ok hT hd (by simp)
 simp only [KindOK] at k1 k2 k3
 subst k1; subst k2; subst k3
 obtain ⟨g1, g2⟩ := intsL_ok hl
 have hrun : (convert s d (a.eval x)).run P w = .ok (.string (strOfNums l)) w := by
  rw [q2]
  by_cases h0 : len = 0
  ·subst h0
   have : l = [] := List.length_eq_zero_iff.1 g1
   subst this
   obtain ⟨b0, o0, s0⟩ := p
   simp [convert, run_underlying hu1, run_underlying hu2, run_underlying hu3, Conv.bytesToString, loadCells, loadCellsFrom]
   rfl
  ·have hpp := q7 (by omega)
   subst hpp
   refine run_convert_bytes_arg w s e hu1 hu2 b (o1 + i * 1) len cc l g1 ?_ d hu3
   intro j hj
   have h1 := g2 j hj
   rw [List.getElem?_drop] at h1
   obtain ⟨y, r1, r2⟩ := rw1.cell h1
   simp only [Den] at r2
   rw [← r2, ← r1]; congr 2; omega
 unfold Oper.wp
 rw [show (execOp a.eval o).run P w = .ok (.value (.string (strOfNums l))) w by simp [execOp, ho, hrun]]
 exact hk env F _ w (Turn.refl _ _ _ _ _) (by simp only [Den])
theorem triple_s2b_row {P : Program} {T : Tab} (hT : TabOK P T) {o : Oper} {fr : Fr} {n s d e : Nat} {x : Operand} {b : ByteArray}
  (ho : o.op = .convert s d x) (hx : ev fr x = some (.str b)) (hs : kindOf T s = .str) (hd : kindOf T d = .slice e) (he : kindOf T e = .int .u8) :
  Triple P o fr [] [] n (n + 1) (.sv n 1 0 b.size none) [(n, .row e 1 (bytesA b) none)] := by
 intro env F a w next Q hn hsat hfresh hk
 have hn' := hfresh n (Nat.le_refl _) (by omega)
 have hd1 := ev_den hn (by rw [ho]; simp [Op.operands]) hx
 simp only [Den] at hd1
 obtain ⟨d1, hu1, k1⟩ := kindOf_ok hT hs (by simp)
 obtain ⟨d2, hu2, k2⟩ := kindOf_ok hT he (by simp)
 obtain ⟨d3, hu3, k3⟩ := kindOf_ok hT hd (by simp)
 simp only [KindOK] at k1 k2 k3
 subst k1; subst k2; subst k3
 have hrun := run_bytes_of_string (P := P) w s d e b hu1 hu3 hu2
 unfold Oper.wp
 have hcap : b.size ≤ grownCap w b.size 0 e := grownCap_ge _ _ _ _
 have hsz : b.data.size = b.size := rfl
 rw [show (execOp a.eval o).run P w = .ok (.value (.slice (some ⟨w.heap.size, 0, none⟩) b.size (grownCap w b.size 0 e))) (w.drew.alloc (.cells (bytesRow b (grownCap w b.size 0 e)) e ((bytesRow b (grownCap w b.size 0 e)).size, (bytesRow b (grownCap w b.size 0 e)).size + 1))) by
  simp only [execOp, ho, hd1, Sem.run_bind]; rw [hrun]; rfl]
 refine hk _ _ _ _ (Turn.row_new (w1 := w.drew) (ys := b.data.toList.map fun b => Value.int .u8 b.toNat) (tl := List.replicate (grownCap w b.size 0 e - b.size) (.int .u8 0)) (C := grownCap w b.size 0 e) hn' ⟨rfl, rfl, rfl, rfl⟩ ?_ ?_ (bytesA_den _) (.inl ⟨rfl, Nat.le_refl _⟩) (fun k hk => by cases hk))
  (sv_new hcap (fun k hk => by cases hk))
 ·simp [bytesRow, hsz]; omega
 ·simp [bytesRow]
end
end Go.SX
namespace Go.SX
noncomputable section
theorem triple_app_nil0 {P : Program} {T : Tab} (hT : TabOK P T) {o : Oper} {fr : Fr} {n t t' e sz : Nat} {ag : Bool} {z : List AV} {kk : TK} {x y : Operand} {R : Heap} {yv : AV} {r : Option Res}
  (ho : isAppend o x y t t') (hx : ev fr x = some .nils) (hy : ev fr y = some yv) (hk : kindOf T t = .slice e) (hr : T e = some ⟨ag, sz, z, kk⟩) (hzl : z.length = sz)
  (hk' : (∃ e, kindOf T t' = .slice e) ∨ kindOf T t' = .str) (hsr : ∀ h, srcH yv = some h → ∃ q, r = some q ∧ look R h = some q) (hln : lenA yv r = some 0) (hrd : readsA sz yv r 0 = some []) :
  Triple P o fr R [] n n .nils [] := by
 intro env F a w next Q hn hs hfresh hkk
 have hd1 := ev_den hn (by rw [ho]; simp [Op.operands, Call.operands]) hx
 have hd2 := ev_den hn (by rw [ho]; simp [Op.operands, Call.operands]) hy
 obtain ⟨hu, iv, zv, g1, g2, g3, g4, g5, g6⟩ := elem_info hT hk hr hzl
 obtain ⟨news, hsrc, hden⟩ := src_of (P := P) hT (H := R) (by simpa using hs) hsr hd2 hrd hln hk' rfl
 have hd1' := hd1
 simp only [Den] at hd1'
 have hn0 : news = [] := List.eq_nil_of_length_eq_zero (by have := hsrc.newsLen; simpa using this)
 subst hn0
 have hrun : (Builtin.append_ #[t, t'] o.type #[a.eval x, a.eval y]).run P w = .ok (a.eval x) w := by
  rw [hd1']
  rcases hsrc.kind with ⟨e', hk⟩ | hk <;> simp [Builtin.append_, run_underlying hu, run_underlying hk, sizeOf, typeInfo, g1, g2, hsrc.len, hsrc.cells]
 unfold Oper.wp
 rw [append_ex ho hrun]
 exact hkk env F _ w (Turn.refl _ _ _ _ _) hd1
def emptyS : AV → Bool
 | .nils => true
 | .sv _ _ _ 0 _ => true
 | .slc _ _ 0 _ => true
 | _ => false
theorem triple_clear_zero {P : Program} {T : Tab} (hT : TabOK P T) {o : Oper} {fr : Fr} {n t e : Nat} {x : Operand} {xv : AV}
  (ho : o.op = .call { callee := .builtin .clear, args := #[x], argTypes := #[t] }) (hx : ev fr x = some xv) (hk : kindOf T t = .slice e) (he : emptyS xv = true) :
  Triple P o fr [] [] n n (.tup []) [] := by
 refine triple_val fun env a w hn => ?_
 have hd1 := ev_den hn (by rw [ho]; simp [Op.operands, Call.operands]) hx
 obtain ⟨d, hu, h5⟩ := kindOf_ok hT hk (by simp)
 simp only [KindOK] at h5; subst h5
 have hv : ∃ p c, a.eval x = .slice p 0 c := by
  unfold emptyS at he
  split at he
  ·simp only [Den] at hd1; exact ⟨_, _, hd1⟩
  ·obtain ⟨b, o1, m, C, p, cc, q1, q2, _⟩ := den_sv.1 hd1; exact ⟨_, _, q2⟩
  ·simp only [Den] at hd1; obtain ⟨b, _, h⟩ := hd1; exact ⟨_, _, h⟩
  ·cases he
 obtain ⟨p, c, hv⟩ := hv
 refine ⟨.tuple #[], ?_, by simp only [Den]; exact ⟨#[], rfl, by simp [Dens]⟩⟩
 simp only [execOp, ho, resolve, invoke, builtin, Sem.run_bind, Sem.run_pure, Result.andThen_ok]
 simp only [List.map_toArray, List.map_cons, List.map_nil]
 cases p <;> simp [Builtin.clear_, run_underlying hu, hv]
theorem denM_length {env : Env} : ∀ {L : List (AV × AV)} {es : List MapEntry}, DenM env L es → es.length = L.length
 | [], es, h => by simp only [DenM] at h; subst h; rfl
 | (k, v) :: L, es, h => by
  simp only [DenM] at h
  obtain ⟨e, t, rfl, _, _, h3⟩ := h
  simp [denM_length h3]
theorem triple_maplen {P : Program} {T : Tab} (hT : TabOK P T) {o : Oper} {fr : Fr} {n h t kt et : Nat} {fl : List LK} {x : Operand} {L : List (AV × AV)}
  (ho : o.op = .call { callee := .builtin .len, args := #[x], argTypes := #[t] }) (hx : ev fr x = some (.hd h)) (hm : kindOf T t = .map kt et fl) :
  Triple P o fr [(h, .map L)] [] n n (.int .i64 L.length) [] := by
 intro env F a w next Q hneed hsat hfresh hkk
 have d1 := ev_den hneed (by rw [ho]; simp [Op.operands, Call.operands]) hx
 simp only [Den] at d1
 obtain ⟨e1, _⟩ := d1
 obtain ⟨v1, hv1, b, xs, clock, q1, q2, q3, q4, q5⟩ := hsat.sat (h := h) (r := .map L) (by simp [lookC, Nat.beq_refl])
 rw [e1] at hv1; cases hv1
 obtain ⟨d, hu, hd⟩ := kindOf_ok hT hm (by simp)
 obtain ⟨rfl, hfl⟩ := hd
 have hl := denM_length q4
 unfold Oper.wp
 have hrun : (execOp a.eval o).run P w = .ok (.value (goInt xs.size)) w := by
  simp only [execOp, ho, resolve, invoke, builtin, Sem.run_bind, Sem.run_pure, Result.andThen_ok]
  simp only [List.map_toArray, List.map_cons, List.map_nil]
  simp [Builtin.len_, run_underlying hu, q1, run_getObj_at q3]
 rw [hrun]
 exact hkk env F _ w (Turn.refl _ _ _ _ _) (by simp only [Den, goInt]; simp at hl; rw [hl])
theorem triple_lookup_nil {P : Program} {T : Tab} (hT : TabOK P T) {o : Oper} {fr : Fr} {n t kt et : Nat} {fl : List LK} {x k : Operand} {ok : Bool} {kv z : AV} {r : TRow}
  (ho : o.op = .lookup t x k ok) (hm : kindOf T t = .map kt et fl) (hx : ev fr x = some .nilm) (hk : ev fr k = some kv) (hkf : keyFit T kt fl kv = true) (hr : T et = some r) (hz : zeroA r = some z) :
  Triple P o fr [] [] n n (okA' ok z false) [] := by
 refine triple_val fun env a w hneed => ?_
 have d1 := ev_den hneed (by rw [ho]; simp [Op.operands]) hx
 have d2 := ev_den hneed (by rw [ho]; simp [Op.operands]) hk
 simp only [Den] at d1
 obtain ⟨d, hu, hd⟩ := kindOf_ok hT hm (by simp)
 obtain ⟨rfl, hfl⟩ := hd
 obtain ⟨f1, f2, f3⟩ := keyFit_ok hT hfl hkf d2
 have hck := checkKey_fit (w := w) (D := 10000) (em := true) (by omega) hfl f1
 obtain ⟨zv, z1, z2⟩ := zeroA_ok hT hr hz w
 refine ⟨if ok then .tuple #[zv, .bool false] else zv, ?_, okA'_den (z2 env)⟩
 have hfk := findKey_fit (w := w) (es := []) hfl f1 (by simp)
 simp only [findE] at hfk
 simp [execOp, ho, Instr.lookup, d1, run_underlying hu, hck, hfk, z1]
end
end Go.SX
-- MERGED
-- SQUEEZED
