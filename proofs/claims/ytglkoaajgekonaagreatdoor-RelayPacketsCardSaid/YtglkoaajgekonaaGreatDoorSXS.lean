/- SX, part S: a slice whose capacity is not known: what holds whatever it is. -/
import Derived.Test.YtglkoaajgekonaaGreatDoorSXZ
import Derived.Lib.AppendZerosOnto
import Derived.Lib.Overlaps
namespace Go.SX
noncomputable section
def Alike (pre pre' : Heap) : Prop := ∀ h, (look pre h).map Res.excl = (look pre' h).map Res.excl
theorem Alike.symm {pre pre' : Heap} (h : Alike pre pre') : Alike pre' pre := fun k => (h k).symm
theorem Alike.at {pre pre' : Heap} (h : Alike pre pre') {k : Nat} {r : Res} (hl : look pre k = some r) : ∃ r', look pre' k = some r' ∧ r'.excl = r.excl := by
 have := h k
 rw [hl] at this
 cases hl' : look pre' k with
 | none => rw [hl'] at this; cases this
 | some r' => rw [hl'] at this; simp only [Option.map_some, Option.some.injEq] at this; exact ⟨r', rfl, this.symm⟩
theorem Alike.owned {pre pre' : Heap} (h : Alike pre pre') (F : Foot) : Owned pre F = Owned pre' F := by
 funext b
 apply propext
 constructor
 ·rintro ⟨k, r, h1, h2, h3⟩
  obtain ⟨r', e1, e2⟩ := h.at h1
  exact ⟨k, r', e1, e2.trans h2, h3⟩
 ·rintro ⟨k, r, h1, h2, h3⟩
  obtain ⟨r', e1, e2⟩ := h.symm.at h1
  exact ⟨k, r', e1, e2.trans h2, h3⟩
theorem Turn.alike {n n' : Nat} {R pre pre' post : Heap} {env env' : Env} {F F' : Foot} {w w' : World} (h : Alike pre pre') (t : Turn n n' R pre post env F w env' F' w') : Turn n n' R pre' post env F w env' F' w' := by
 refine ⟨t.le, t.only, t.sat, ?_, h.owned F ▸ t.frame⟩
 intro k r b hl hb
 rcases t.owns hl hb with ⟨h0, r0, e1, e2, e3⟩ | e | e
 ·obtain ⟨r', q1, q2⟩ := h.at e1
  exact .inl ⟨h0, r', q1, e2, fun he => q2.trans (e3 he)⟩
 ·exact .inr (.inl e)
 ·exact .inr (.inr e)
theorem Ctr.any_cap {P : Program} {g : FuncId} {h z len e n n' : Nat} {cs as : List AV} {R pre post : Heap} {v : AV}
  (hc : ∀ C, len ≤ C → cs.length ≤ C * z → Ctr P g (.sv h z 0 len (some C) :: as) R ((h, .row e z cs (some C)) :: pre) n n' v post) (hz : 0 < z) :
  Ctr P g (.sv h z 0 len none :: as) R ((h, .row e z cs none) :: pre) n n' v post := by
 obtain ⟨hb, hn, hd, -⟩ := hc (len + cs.length) (by omega) (Nat.le_trans (by omega) (Nat.le_mul_of_pos_right (len + cs.length) hz))
 refine ⟨hb, hn, hd, ?_⟩
 intro env F w xs hden hs hf
 obtain ⟨v0, e0, s0⟩ := hs.sat (h := h) (r := .row e z cs none) (by simp [lookC, Nat.beq_refl])
 obtain ⟨b, o, m, C, ys, lo, hi, us, tl, rw0⟩ := rowAt.1 s0
 simp only [Dens] at hden
 obtain ⟨x, xl, hxs, hx, hxl⟩ := hden
 obtain ⟨b', o', m', C', p, c, q1, q2, q3, q4, q5, q6, q7⟩ := den_sv.1 hx
 rw [e0, rw0.val] at q1
 simp only [Option.some.injEq, Value.slice.injEq, Addr.mk.injEq] at q1
 obtain ⟨⟨rfl, rfl, -⟩, rfl, rfl⟩ := q1
 have hcC : c = C := by have := q5 rfl; omega
 subst hcC
 have hlen := rw0.len
 have spec := (hc c q3 (by omega)).2.2.2 env F w xs ?_ ?_ hf
 ·refine spec.mono ?_
  rintro e1 w' ⟨env', F', y, h1, t, hy⟩
  refine ⟨env', F', y, h1, Turn.alike ?_ t, hy⟩
  intro k
  rw [look_cons, look_cons]
  by_cases ek : h = k
  ·rw [if_pos ek, if_pos ek]; rfl
  ·rw [if_neg ek, if_neg ek]
 ·simp only [Dens]
  exact ⟨x, xl, hxs, den_sv.2 ⟨b, o, m, c, p, c, by rw [e0, rw0.val], q2, q3, q4, fun hk => (by cases hk), fun k hk => by cases hk; rfl, q7⟩, hxl⟩
 ·refine ⟨?_, ?_⟩
  ·intro k r hl
   rw [List.cons_append, look_cons] at hl
   split at hl
   ·rename_i ek
    subst ek; cases hl
    exact ⟨v0, e0, rowAt.2 ⟨b, o, m, c, ys, lo, hi, us, tl, ⟨rw0.val, rw0.foot, rw0.at_, rw0.fz, rw0.size, rw0.split, rw0.den, fun k hk => by cases hk; rfl⟩⟩⟩
   ·rename_i ek
    exact hs.sat (h := k) (by rw [List.cons_append, look_cons, if_neg ek]; exact hl)
  ·have up : ∀ {k r}, look ((h, Res.row e z cs (some c)) :: pre ++ R) k = some r → ∃ r', look ((h, Res.row e z cs none) :: pre ++ R) k = some r' ∧ r'.excl = r.excl := by
    intro k r hl
    rw [List.cons_append, look_cons] at hl ⊢
    split at hl
    ·rename_i ek
     cases hl
     exact ⟨.row e z cs none, by rw [if_pos ek], rfl⟩
    ·rename_i ek
     exact ⟨r, by rw [if_neg ek]; exact hl, rfl⟩
   intro k r k' r' hl hl' hne he b hb hb'
   obtain ⟨r1, u1, u2⟩ := up hl
   obtain ⟨r2, u3, u4⟩ := up hl'
   exact hs.apart u1 u3 hne (u2.trans he) b hb hb'
theorem Ctr.rebase {P : Program} {g : FuncId} {args : List AV} {R pre post post' : Heap} {n n1 h z L C e : Nat} {cs cs' : List AV}
  (hc : Ctr P g args R pre n n1 (.sv h z 0 L (some C)) post) (hl : look post h = some (.row e z cs (some C))) (hcs : ∃ tl, cs = cs' ++ tl)
  (hp : ∀ k r, look post' k = some r → k ≠ h → look post k = some r) (hdom : domB pre ((h, .gone) :: (n1, .row e z cs' none) :: post') = true) :
  Ctr P g args R pre n (n1 + 1) (.sv n1 z 0 L none) ((h, .gone) :: (n1, .row e z cs' none) :: post') := by
 obtain ⟨hb, hn, hd, spec⟩ := hc
 refine ⟨hb, by omega, hdom, ?_⟩
 intro env F w xs hden hs hf
 refine (spec env F w xs hden hs fun k h1 h2 => hf k h1 (by omega)).mono ?_
 rintro e1 w' ⟨env', F', x, rfl, t, hx⟩
 obtain ⟨tl0, rfl⟩ := hcs
 have hnone : env' n1 = none := by rw [t.only n1 (by omega)]; exact hf n1 hn (by omega)
 obtain ⟨v0, e0, s0⟩ := t.sat.sat hl
 obtain ⟨b, o, m, C1, ys, lo, hi, us, tl, rw0⟩ := rowAt.1 s0
 have hC : C1 = C := rw0.cap C rfl
 subst hC
 obtain ⟨b', o', m', C', p, c, q1, q2, q3, q4, q5, q6, q7⟩ := den_sv.1 hx
 rw [e0, rw0.val] at q1
 simp only [Option.some.injEq, Value.slice.injEq, Addr.mk.injEq] at q1
 obtain ⟨⟨rfl, rfl, -⟩, rfl, rfl⟩ := q1
 have hcC : c = C1 := q6 _ rfl
 subst hcC
 have hne : h ≠ n1 := by rintro rfl; rw [hnone] at e0; cases e0
 have hle : env'.le (env'.set n1 v0) := Env.le_set hnone
 classical
 let F'' : Foot := fun k => if k = n1 then F' h else if k = h then fun _ => False else F' k
 have fn : F'' n1 = F' h := by simp [F'']
 have fh : F'' h = fun _ => False := by simp [F'', hne]
 have fo : ∀ k, k ≠ n1 → k ≠ h → F'' k = F' k := fun k h1 h2 => by simp [F'', h1, h2]
 obtain ⟨us1, us2, hus, hd1, hd2⟩ := dens_append_inv rw0.den
 have look3 : ∀ {k r}, look ((h, Res.gone) :: (n1, Res.row e z cs' none) :: post') k = some r → (k = h ∧ r = .gone) ∨ (k = n1 ∧ r = .row e z cs' none) ∨ (k ≠ h ∧ k ≠ n1 ∧ look post k = some r) := by
  intro k r hk
  rw [look_cons] at hk
  split at hk
  ·rename_i ek; cases hk; exact .inl ⟨ek.symm, rfl⟩
  ·rename_i ek
   rw [look_cons] at hk
   split at hk
   ·rename_i ek2; cases hk; exact .inr (.inl ⟨ek2.symm, rfl⟩)
   ·rename_i ek2
    exact .inr (.inr ⟨fun e => ek e.symm, fun e => ek2 e.symm, hp k r hk fun e => ek e.symm⟩)
 refine ⟨env'.set n1 v0, F'', x, rfl, ⟨t.le.trans hle, ?_, ⟨?_, ?_⟩, ?_, t.frame⟩, ?_⟩
 ·intro k hk
  unfold Env.set
  rw [if_neg (by omega)]
  exact t.only k (by omega)
 ·intro k r hk
  rcases look3 hk with ⟨rfl, rfl⟩ | ⟨rfl, rfl⟩ | ⟨k1, k2, k3⟩
  ·exact ⟨v0, hle _ _ e0, by rw [fh]; exact fun b hb => hb⟩
  ·refine ⟨v0, Env.set_same _ _ _, ?_⟩
   rw [fn]
   exact rowAt.2 ⟨b, o, m, c, ys, lo, hi, us1, us2 ++ tl, ⟨rw0.val, rw0.foot, rw0.at_, rw0.fz, rw0.size, by rw [rw0.split, hus, List.append_assoc], Dens.mono hle _ hd1, fun k hk => by cases hk⟩⟩
  ·obtain ⟨v1, u1, u2⟩ := t.sat.sat k3
   refine ⟨v1, hle _ _ u1, ?_⟩
   rw [fo k k2 k1]
   exact Res.sat_stable hle (fun _ _ => rfl) u2
 ·intro k r k' r' hk hk' hkk he b1 hb1 hb2
  rcases look3 hk with ⟨rfl, rfl⟩ | ⟨rfl, rfl⟩ | ⟨k1, k2, k3⟩
  ·rw [fh] at hb1; exact hb1
  ·rw [fn] at hb1
   rcases look3 hk' with ⟨rfl, rfl⟩ | ⟨rfl, rfl⟩ | ⟨j1, j2, j3⟩
   ·rw [fh] at hb2; exact hb2
   ·exact hkk rfl
   ·rw [fo k' j2 j1] at hb2
    exact t.sat.apart hl j3 (fun e => j1 e.symm) rfl b1 hb1 hb2
  ·rw [fo k k2 k1] at hb1
   rcases look3 hk' with ⟨rfl, rfl⟩ | ⟨rfl, rfl⟩ | ⟨j1, j2, j3⟩
   ·rw [fh] at hb2; exact hb2
   ·rw [fn] at hb2
    exact t.sat.apart k3 hl k1 he b1 hb1 hb2
   ·rw [fo k' j2 j1] at hb2
    exact t.sat.apart k3 j3 hkk he b1 hb1 hb2
 ·intro k r b1 hk hb1
  rcases look3 hk with ⟨rfl, rfl⟩ | ⟨rfl, rfl⟩ | ⟨k1, k2, k3⟩
  ·rw [fh] at hb1; exact hb1.elim
  ·rw [fn] at hb1
   rcases t.owns hl hb1 with ⟨h0, r0, a1, a2, a3⟩ | ⟨h0, r0, a1, a2, a3, a4⟩ | a
   ·exact .inl ⟨h0, r0, a1, a2, fun _ => a3 rfl⟩
   ·cases a4
   ·exact .inr (.inr a)
  ·rw [fo k k2 k1] at hb1
   exact t.owns k3 hb1
 ·refine den_sv.2 ⟨b, o, m, c, p, c, by rw [Env.set_same, rw0.val], q2, q3, q4, fun _ => by omega, fun k hk => (by cases hk), q7⟩
where
 dens_append_inv {env : Env} {l m : List AV} {xs : List Value} (h : Dens env (l ++ m) xs) : ∃ a b, xs = a ++ b ∧ Dens env l a ∧ Dens env m b := by
  induction l generalizing xs with
  | nil => exact ⟨[], xs, rfl, by simp [Dens], h⟩
  | cons v l ih =>
   simp only [List.cons_append, Dens] at h
   obtain ⟨y, ys, rfl, h1, h2⟩ := h
   obtain ⟨a, b, rfl, h3, h4⟩ := ih h2
   exact ⟨y :: a, b, rfl, by simp only [Dens]; exact ⟨y, a, rfl, h1, h3⟩, h4⟩
theorem triple_app_make {P : Program} {T : Tab} (hT : TabOK P T) {o : Oper} {fr : Fr} {n h t t' e sz i len k C : Nat} {ag : Bool} {z cs : List AV} {kk : TK} {kn kq : IntKind} {x y : Operand} {R : Heap} {rc : Option Nat}
  (ho : isAppend o x y t t') (hx : ev fr x = some (.sv h sz i len (some C))) (hy : ev fr y = some (.int kq (k : Nat))) (hk : kindOf T t = .slice e) (hk' : kindOf T t' = .int kn) (hr : T e = some ⟨ag, sz, z, kk⟩) (hzl : z.length = sz)
  (hlk : look R h = some (.row e sz cs rc)) (hin : (i + len) * sz ≤ cs.length)
  (hz0 : 0 < sz) (hk0 : 0 < k) (hroom : (len + k) * sz ≤ room) (hcap : C < len + k) :
  Triple P o fr R [] n (n + 1) (.sv n sz 0 (len + k) none) [(n, .row e sz ((cs.drop (i * sz)).take (len * sz) ++ repA k sz z) none)] := by
 intro env F a w next Q hn hs hfresh hkk
 have hn' := hfresh n (Nat.le_refl _) (by omega)
 have hd1 := ev_den hn (by rw [ho]; simp [Op.operands, Call.operands]) hx
 have hd2 := ev_den hn (by rw [ho]; simp [Op.operands, Call.operands]) hy
 simp only [Den] at hd2
 obtain ⟨hu, iv, zv, g1, g2, g3, g4, g5, g6⟩ := elem_info hT hk hr hzl
 obtain ⟨dn, hun, h5⟩ := kindOf_ok hT hk' (by simp)
 simp only [KindOK] at h5; subst h5
 have hs' : SatH env R F w := by simpa using hs
 obtain ⟨olds, ho1, ho2, ho3⟩ := readsA_ok (P := P) (y := .sv h sz i len (some C)) (r := some (.row e sz cs rc)) (z := sz) (k := len) (n := len) (ws := (cs.drop (i * sz)).take (len * sz)) hs'
  (fun h' hh => by simp only [srcH, Option.some.injEq] at hh; subst hh; exact ⟨_, rfl, hlk⟩) hd1 (by
   unfold readsA
   have : Nat.ble (i * sz + len * sz) cs.length = true := Nat.ble_eq_true_of_le (by rw [← Nat.add_mul]; exact hin)
   simp only [Nat.beq_refl, this, Bool.and_self]) rfl (Nat.le_refl _)
 obtain ⟨b, o1, m, C', p, cc, q1, q2, q3, q4, q5, q6, q7⟩ := den_sv.1 hd1
 have hcc : cc = C := q6 C rfl
 subst hcc
 obtain ⟨b1, b2⟩ := grow_bound g6 hroom hcap hz0
 have hold := ho1 w.drew rfl
 rw [q2, ← g2] at hold
 have h48 : k * iv.bytes ≤ 281474976710656 := by
  have h1 : k * iv.bytes ≤ k * (32 * sz) := Nat.mul_le_mul_left _ g6
  have h2 : k * (32 * sz) = 32 * (k * sz) := by rw [Nat.mul_left_comm]
  have h3 : k * sz ≤ (len + k) * sz := Nat.mul_le_mul_right _ (by omega)
  unfold room at hroom; omega
 have hrun := Lib.run_append_grow_zeros (P := P) w t t' o.type e iv zv kq kn hu hun g1 g3 (some p) len cc olds hold k hk0 (by rw [g2]; exact hz0) hcap b2 h48 b1
 unfold Oper.wp
 rw [append_ex ho (by rw [q2, hd2]; exact hrun)]
 have hge := grownCap_ge w (len + k) cc e
 have hmul : len * sz + k * sz + (grownCap w (len + k) cc e - (len + k)) * sz = grownCap w (len + k) cc e * sz := by
  rw [← Nat.add_mul, ← Nat.add_mul]; congr 1; omega
 have hzd : Dens env (repA k sz z) (Builtin.zeroCells zv.cells k).toList := by
  have := repA_den (m := k) (sz := sz) (g5 env) hzl (Nat.mul_ne_zero (by omega) (by omega))
  simpa [Builtin.zeroCells, g4] using this
 refine hkk _ _ _ _ (Turn.row_new (w1 := w.drew) (ys := olds ++ (Builtin.zeroCells zv.cells k).toList) (tl := (Builtin.zeroCells zv.cells (grownCap w (len + k) cc e - (len + k))).toList) (lo := 0) (hi := 0) (C := grownCap w (len + k) cc e) hn' ⟨rfl, rfl, rfl, rfl⟩ ?_ ?_ (ho3.append hzd) (.inr (Nat.le_refl _)) (fun k hk => by cases hk))
  (sv_new hge (fun k hk => by cases hk))
 ·simp [zeroCells_size, g4, ho2]; omega
 ·simp
def OverFn (P : Program) (g : FuncId) (ts tb : TypeId) : Prop :=
 ∃ fn, P.funcs[g]? = some fn ∧ (fn.name == "runtime.NumGoroutine") = false ∧ fn.body.isNone = true ∧ Extern.findNext fn = none ∧ Extern.find fn = some (Extern.SlicesOverlaps.overlaps #[ts, ts] #[tb])
theorem triple_overlaps {P : Program} {T : Tab} (hT : TabOK P T) {o : Oper} {fr : Fr} {n g h1 h2 e1t e2t z i1 i2 l1 l2 ts tb e : Nat} {c1 c2 r1 r2 : Option Nat} {cs1 cs2 : List AV} {ag : Bool} {zz : List AV} {kk : TK} {R : Heap}
  (hf : OverFn P g ts tb) (hk : kindOf T ts = .slice e) (hr : T e = some ⟨ag, z, zz, kk⟩) (hz1 : 1 < z) (hcall : IsCall o fr g [.sv h1 z i1 l1 c1, .sv h2 z i2 l2 c2]) (hne : h1 ≠ h2)
  (hk1 : look R h1 = some (.row e1t z cs1 r1)) (hk2 : look R h2 = some (.row e2t z cs2 r2)) (hp : 0 < l1) (hp2 : 0 < l2) :
  Triple P o fr R [] n n (.bool false) [] := by
 intro env F a w next Q hneed hsat hfresh hkk
 have hs' : SatH env R F w := by simpa using hsat
 obtain ⟨xs, hx, hrun⟩ := evs_call hneed hcall
 obtain ⟨fn, f1, f2, f3, f4, f5⟩ := hf
 simp only [Dens] at hx
 obtain ⟨x, xl, hxs, hd1, y, yl, rfl, hd2, rfl⟩ := hx
 have hxe : xs = #[x, y] := by apply Array.ext'; simpa using hxs
 obtain ⟨b, o1, m, C, p, cc, q1, q2, q3, q4, q5, q6, q7⟩ := den_sv.1 hd1
 obtain ⟨b', o1', m', C', p', cc', u1, u2, u3, u4, u5, u6, u7⟩ := den_sv.1 hd2
 have hpp := q7 (by omega)
 have hpp' := u7 (by omega)
 subst hpp; subst hpp'
 obtain ⟨v1, e1, s1⟩ := hs'.sat hk1
 obtain ⟨v2, e2, s2⟩ := hs'.sat hk2
 obtain ⟨bb, oo, mm, CC, ys, lo, hi, us, tl, rw1⟩ := rowAt.1 s1
 obtain ⟨bb', oo', mm', CC', ys', lo', hi', us', tl', rw2⟩ := rowAt.1 s2
 rw [e1, rw1.val] at q1
 rw [e2, rw2.val] at u1
 simp only [Option.some.injEq, Value.slice.injEq, Addr.mk.injEq] at q1 u1
 obtain ⟨⟨rfl, rfl, -⟩, rfl, rfl⟩ := q1
 obtain ⟨⟨rfl, rfl, -⟩, rfl, rfl⟩ := u1
 have hbb : bb ≠ bb' := fun e => hs'.apart hk1 hk2 hne rfl bb ((rw1.foot bb).2 rfl) ((rw2.foot bb).2 e)
 have hlo : hi ≤ lo := rw1.fz.resolve_left fun h => by omega
 obtain ⟨d, hu, h5⟩ := kindOf_ok hT hk (by simp)
 simp only [KindOK] at h5; subst h5
 have hzz := (row_info hT hr w).1
 have hsz : ∀ w, (sizeOf e).run P w = .ok z w := fun w => (row_info hT hr w).1
 have hszpos : ys'.size ≠ 0 := by
  have := rw2.size
  have h2 : 1 * z ≤ CC' * z := Nat.mul_le_mul_right _ (by omega)
  omega
 have hfro : ∀ k, w.frozen? ⟨bb, k, none⟩ = false := by
  intro k
  simp only [World.frozen?, rw1.at_, Bool.and_eq_false_imp, decide_eq_true_eq, decide_eq_false_iff_not]
  intro h; omega
 have hrun2 : (callFunc g #[x, y]).run P w = .ok (.value (.bool false)) w := by
  rw [run_callFunc_extern f1 f2 f3 f4 f5, q2, u2,
   Lib.run_overlaps_apart w ts tb e hu z hsz ⟨bb, oo + i1 * z, none⟩ ⟨bb', oo' + i2 * z, none⟩ l1 cc l2 cc' hbb e1t e2t ys.size ys'.size (by simp only [World.shape?, rw1.at_]) (by simp only [World.shape?, rw2.at_]) hszpos (hfro _) (hfro _)]
  rfl
 unfold Oper.wp
 rw [hrun, hxe, hrun2]
 exact hkk env F _ w ⟨Env.le.refl _, fun _ _ => rfl, ⟨fun h => by simp [lookN] at h, fun h => by simp [lookN] at h⟩, fun h => by simp [lookN] at h, FrameW.refl _ _⟩ (by simp only [Den])
end
end Go.SX
namespace Go.SX
noncomputable section
theorem Ctr.ren {P : Program} {g : FuncId} {args : List AV} {R pre post : Heap} {n n' N : Nat} {r : AV} (σ : List Nat) (spec : Ctr P g args R pre n n' r post) (hcb : callB σ n N = true) :
  Ctr P g (renL (sg σ N) args) (renH (sg σ N) R) (renH (sg σ N) pre) N (N + (n' - n)) (renA (sg σ N) r) (renH (sg σ N) post) := by
 simp only [callB, Bool.and_eq_true] at hcb
 obtain ⟨hσ, hnd, hlt⟩ := hcb
 have hσ := Nat.eq_of_beq_eq_true hσ
 obtain ⟨hbody, hnn, hdom, spec⟩ := spec
 have hinj := sg_inj hnd hlt
 generalize hπ : sg σ N = π at *
 have hπlt : ∀ h, h < n → π h < N := by
  intro h hh
  rw [← hπ]; unfold sg; rw [nth_eq]
  have : h < σ.length := by omega
  rw [List.getElem?_eq_getElem this]
  have := List.all_eq_true.1 hlt σ[h] (List.getElem_mem this)
  simpa using this
 have hπge : ∀ h, n ≤ h → π h = N + (h - n) := by
  intro h hh
  rw [← hπ]; unfold sg; rw [nth_eq, List.getElem?_eq_none (by omega), hσ]
 refine ⟨hbody, by omega, ?_, ?_⟩
 ·unfold domB
  rw [List.all_eq_true]
  intro p hp
  have key : ∀ l : Heap, ∀ p ∈ renH π l, ∃ q ∈ l, p = (π q.1, renR π q.2) := by
   intro l
   induction l with
   | nil => intro p hp; cases hp
   | cons q l ih =>
    obtain ⟨k, q⟩ := q
    intro p hp
    rcases List.mem_cons.1 hp with rfl | hp
    ·exact ⟨_, List.mem_cons_self, rfl⟩
    ·obtain ⟨q', h1, h2⟩ := ih p hp; exact ⟨q', List.mem_cons_of_mem _ h1, h2⟩
  have key' : ∀ l : Heap, ∀ q ∈ l, (π q.1, renR π q.2) ∈ renH π l := by
   intro l
   induction l with
   | nil => intro p hp; cases hp
   | cons q l ih =>
    obtain ⟨k, q⟩ := q
    intro p hp
    rcases List.mem_cons.1 hp with rfl | hp
    ·exact List.mem_cons_self
    ·exact List.mem_cons_of_mem _ (ih p hp)
  obtain ⟨q, h1, rfl⟩ := key _ p hp
  have := List.all_eq_true.1 hdom q h1
  rw [List.any_eq_true] at this ⊢
  obtain ⟨q', h2, h3⟩ := this
  exact ⟨_, key' _ q' h2, by rw [show q.1 = q'.1 from Nat.eq_of_beq_eq_true h3]; exact Nat.beq_refl _⟩
 ·intro env F w xs hx hsat hfresh
  have hlook : ∀ {h : Nat} {r0 : Res}, look (pre ++ R) h = some r0 → look (renH π pre ++ renH π R) (π h) = some (renR π r0) := by
   intro h r0 hl
   rw [look_append] at hl ⊢
   rw [look_renH hinj, look_renH hinj]
   cases hq : look pre h with
   | some y => rw [hq] at hl; simp at hl; subst hl; simp
   | none => rw [hq] at hl; simp at hl; simp [hl]
  have hsatC : SatH (fun h => env (π h)) (pre ++ R) (fun h => F (π h)) w := by
   refine ⟨?_, ?_⟩
   ·intro h r0 hl
    obtain ⟨v, hv, hs⟩ := hsat.sat (hlook hl)
    exact ⟨v, hv, sat_ren.1 hs⟩
   ·intro h r0 h' r1 hl hl' hne he b0 hb0
    exact hsat.apart (hlook hl) (hlook hl') (fun e => hne (hinj _ _ e)) (by rw [excl_ren]; exact he) b0 hb0
  have hC := spec (fun h => env (π h)) (fun h => F (π h)) w xs (dens_ren.1 hx) hsatC (fun h h1 h2 => by
   rw [hπge h h1]; exact hfresh _ (by omega) (by omega))
  refine Calls.mono hC ?_
  rintro e w' ⟨envC, FC, x, rfl, t, hden⟩
  let env' : Env := fun k => if N ≤ k ∧ k < N + (n' - n) then envC (k - N + n) else env k
  let F' : Foot := fun k b0 => ∃ h, π h = k ∧ FC h b0 ∧ ∃ r0, look post h = some r0
  have hcomp : (fun h => env' (π h)) = envC := by
   funext h
   simp only [env']
   by_cases hh : h < n
   ·have := hπlt h hh
    rw [if_neg (by omega), t.only h (by omega)]
   ·rw [hπge h (by omega)]
    by_cases hh2 : h < n'
    ·rw [if_pos (by omega)]; congr 1; omega
    ·rw [if_neg (by omega), t.only h (by omega), hπge h (by omega)]
  have hle : env.le env' := by
   intro k v hv
   simp only [env']
   split
   ·rename_i hk2
    rw [hfresh k hk2.1 hk2.2] at hv; cases hv
   ·exact hv
  refine ⟨env', F', x, rfl, ⟨hle, ?_, ⟨?_, ?_⟩, ?_, ?_⟩, (by rw [den_ren, hcomp]; exact hden)⟩
  ·intro k hk2; simp only [env']; rw [if_neg hk2]
  ·intro k r0 hl
   obtain ⟨h, r1, rfl, h1, rfl⟩ := look_renH_of hinj hl
   obtain ⟨v, hv, hs⟩ := t.sat.sat h1
   refine ⟨v, ?_, ?_⟩
   ·have := congrFun hcomp h; rw [show env' (π h) = envC h from this]; exact hv
   ·rw [sat_ren, hcomp]
    have : F' (π h) = FC h := by
     funext b0
     simp only [F', eq_iff_iff]
     constructor
     ·rintro ⟨h', e1, e2, _⟩; rw [← hinj _ _ e1]; exact e2
     ·intro e; exact ⟨h, rfl, e, r1, h1⟩
    rw [this]; exact hs
  ·intro k r0 k' r0' hl hl' hne he b0
   obtain ⟨h, r1, rfl, h1, rfl⟩ := look_renH_of hinj hl
   obtain ⟨h', r1', rfl, h1', rfl⟩ := look_renH_of hinj hl'
   rintro ⟨i, e1, e2, _⟩ ⟨i', e1', e2', _⟩
   rw [hinj _ _ e1] at e2; rw [hinj _ _ e1'] at e2'
   rw [excl_ren] at he
   exact t.sat.apart h1 h1' (fun e => hne (by rw [e])) he b0 e2 e2'
  ·intro k r0 b0 hl
   obtain ⟨h, r1, rfl, h1, rfl⟩ := look_renH_of hinj hl
   rintro ⟨i, e1, e2, _⟩
   rw [hinj _ _ e1] at e2
   rcases t.owns h1 e2 with ⟨h0, q0, q1, q2, q3⟩ | ⟨h0, q0, q1, q2, q3, q4⟩ | q
   ·exact .inl ⟨π h0, renR π q0, by rw [look_renH hinj, q1]; rfl, q2, by rw [excl_ren, excl_ren]; exact q3⟩
   ·exact .inr (.inl ⟨π h0, renR π q0, by rw [look_renH hinj, q1]; rfl, q2, by rw [excl_ren]; exact q3, by rw [excl_ren]; exact q4⟩)
   ·exact .inr (.inr q)
  ·refine t.frame.mono ?_
   rintro b0 ⟨h, q0, q1, q2, q3⟩
   exact ⟨π h, renR π q0, by rw [look_renH hinj, q1]; rfl, by rw [excl_ren]; exact q2, q3⟩
theorem Ctr.frame {P : Program} {g : FuncId} {args : List AV} {R R' pre pre' post : Heap} {n n' : Nat} {r : AV} (spec : Ctr P g args R pre n n' r post)
  (hro : ∀ h q, look R' h = some q → q.excl = false) (hex : ∀ h q, look pre h = some q → q.excl = true) (hR : Sub R (pre' ++ R')) (hp : Sub pre (pre' ++ R')) : Ctr P g args R' pre' n n' r (post ++ pre') := by
 obtain ⟨hbody, hnn, hdom, spec⟩ := spec
 have hpre : ∀ h q, look pre h = some q → look pre' h = some q := by
  intro h q hl
  have := hp h q hl
  rw [look_append] at this
  cases hq : look pre' h with
  | some y => rw [hq] at this; simpa using this
  | none =>
   rw [hq] at this
   have := hro h q (by simpa using this)
   rw [hex h q hl] at this; cases this
 refine ⟨hbody, hnn, ?_, ?_⟩
 ·unfold domB
  rw [List.all_eq_true]
  intro p hp
  rw [List.any_eq_true]
  exact ⟨p, List.mem_append_right _ hp, Nat.beq_refl _⟩
 ·intro env F w xs hx hsat hfresh
  refine Calls.mono (spec env F w xs hx (hsat.part fun h q hl => ?_) hfresh) ?_
  ·rw [look_append] at hl
   cases hq : look pre h with
   | some y => rw [hq] at hl; simp at hl; subst hl; exact hp h _ hq
   | none => rw [hq] at hl; exact hR h q (by simpa using hl)
  ·rintro e w' ⟨env', F', x, rfl, t, hden⟩
   obtain ⟨F'', h1, h2⟩ := t.whole hsat hR hp (domB_ok hdom)
   refine ⟨env', F'', x, rfl, ⟨t.le, t.only, h1.part fun h q hl => ?_, ?_, t.frame.mono ?_⟩, hden⟩
   ·rw [look_append] at hl ⊢
    rw [look_append]
    cases hq : look post h with
    | some y => rw [hq] at hl; simpa using hl
    | none => rw [hq] at hl; simp at hl; simp [hl]
   ·intro h q b hl hb
    rcases h2 (r := q) (by
     rw [look_append] at hl ⊢
     rw [look_append]
     cases hq : look post h with
     | some y => rw [hq] at hl; simpa using hl
     | none => rw [hq] at hl; simp at hl; simp [hl]) hb with ⟨h0, r0, g1, g2, g3⟩ | g
    ·rw [look_append] at g1
     cases hq : look pre' h0 with
     | some y => rw [hq] at g1; simp at g1; subst g1; exact .inl ⟨h0, _, hq, g2, g3⟩
     | none =>
      rw [hq] at g1
      have g1 : look R' h0 = some r0 := by simpa using g1
      have ge := hro h0 r0 g1
      refine .inr (.inl ⟨h0, r0, g1, g2, ge, ?_⟩)
      cases he : q.excl with
      | false => rfl
      | true => rw [g3 he] at ge; cases ge
    ·exact .inr (.inr g)
   ·rintro b ⟨h, q, g1, g2, g3⟩
    exact ⟨h, q, hpre h q g1, g2, g3⟩
def bareA : AV → Bool
 | .bool _ => true
 | .int _ _ => true
 | .str _ => true
 | _ => false
theorem bare_ren {π : Nat → Nat} {l : List AV} (h : l.all bareA = true) : renL π l = l := by
 induction l with
 | nil => simp [renL]
 | cons v l ih =>
  simp only [List.all_cons, Bool.and_eq_true] at h
  rw [renL, ih h.2]
  cases v <;> first | rfl | (cases h.1)
theorem bare_ok {n : Nat} {l : List AV} (h : l.all bareA = true) : okL n l = true := by
 induction l with
 | nil => rfl
 | cons v l ih =>
  simp only [List.all_cons, Bool.and_eq_true] at h
  rw [okL_cons, ih h.2]
  cases v <;> first | rfl | (cases h.1)
theorem bare_leaf {l : List AV} (h : l.all bareA = true) : l.all leafA = true := by
 rw [List.all_eq_true] at h ⊢
 intro v hv
 have := h v hv
 cases v <;> first | rfl | (cases this)
def put0 (o : Oper) (v : AV) (fr : Fr) (H : Heap) (n sz : Nat) (df : List Df) (log : List (List Nat × List Nat)) (bs : Nat) (rd wr : List Nat) (K : St → Prop) : Prop :=
 match o.dst with
 | none => K ⟨fr, H, n, sz, df, (rd, wr) :: log, bs⟩
 | some d => match Nat.blt d sz with
  | true => K ⟨(d, v) :: fr, H, n, sz, df, (rd, wr) :: log, bs⟩
  | false => False
structure AtOp (P : Program) (o : Oper) (s : St) (K : St → Prop) : Prop where
 ex : Stop P o s K
structure AtCall (P : Program) (g : FuncId) (vs : List AV) (o : Oper) (s : St) (K : St → Prop) : Prop where
 ex : CallStop P g vs o s K
structure AtYield (P : Program) (h : Nat) (vs : List AV) (o : Oper) (s : St) (K : St → Prop) : Prop where
 ex : YieldStop P h vs o s K
structure AtLoop (P : Program) (rh : Option Nat) (b : Code) (Q : Exit → St → Prop) (s : St) : Prop where
 ex : LoopStop P rh b Q s
structure AtScope (P : Program) (rh : Option Nat) (b : Code) (Q : Exit → St → Prop) (s : St) : Prop where
 ex : ScopeStop P rh b Q s
structure AtRange (P : Program) (rh : Option Nat) (f : Operand) (ps : Array Tmp) (as b : Code) (Q : Exit → St → Prop) (s : St) : Prop where
 ex : RangeStop P rh f ps as b Q s
def AskR (P : Program) (pu : Pure) (rh : Option Nat := none) : Ans Prop where
 rows := true
 dfr := false
 bad := False
 ob := fun p _ a => p ∧ a
 bc := bcase
 num := fun n K => K n
 int := fun n K => K n
 str := fun s K => K s
 pre := fun _ _ _ d => d
 stop := AtOp P
 call := fun g vs o s K => match pu g vs with
  | some v => match s with
   | ⟨fr, H, n, sz, df, log, b⟩ => put0 o v fr H n sz df log b [] [] K
  | none => AtCall P g vs o s K
 yld := AtYield P
 loop := fun _ b Q s => AtLoop P rh b Q s
 scope := fun _ b Q s => AtScope P rh b Q s
 range := fun f ps as _ b Q s => AtRange P rh f ps as b Q s
 num_eq := fun _ _ => rfl
 int_eq := fun _ _ => rfl
 str_eq := fun _ _ => rfl
theorem put0_eq {P : Program} {o : Oper} {v : AV} {fr : Fr} {H : Heap} {n sz : Nat} {df : List Df} {log : List (List Nat × List Nat)} {bs : Nat} {rd wr : List Nat} {K : St → Prop} :
  put0 o v fr H n sz df log bs rd wr K = putM (Ask P) o v fr H n sz df log bs rd wr K := by
 unfold put0 putM
 cases o.dst with
 | none => rfl
 | some d => simp only [force_eq]; rfl
theorem askR_call {P : Program} {pu : Pure} (hp : PureOK P pu) {g : FuncId} {vs : List AV} {v : AV} (hv : pu g vs = some v) {o : Oper} {fr : Fr} {H : Heap} {n sz : Nat} {df : List Df} {log : List (List Nat × List Nat)} {b : Nat} {K : St → Prop}
  (h : put0 o v fr H n sz df log b [] [] K) : CallStop P g vs o ⟨fr, H, n, sz, df, log, b⟩ K := by
 intro hcall
 obtain ⟨k1, k2⟩ := putM_iff (askOK P).toOpAns ((put0_eq (P := P)) ▸ h)
 exact ⟨⟨true, [], [], [], n, n, v, [], []⟩, rfl, rfl, Nat.le_refl _, k1, ((hp hv).elim (fun h => call_at (h n) hcall) (fun h => ext_at h hcall)).y, sub_nil, sub_nil, by simp [lookN], by simp [lookN], by simp [lookN], k2⟩
theorem askROK (P : Program) {pu : Pure} (hp : PureOK P pu) (rh : Option Nat := none) : CodeAns P rh (AskR P pu rh) (fun p => p) where
 bad := fun h => h
 ob := fun h => h
 bc := by
  intro b x y h
  cases b with
  | true => exact ⟨fun _ => h, fun e => by cases e⟩
  | false => exact ⟨fun e => (by cases e), fun _ => h⟩
 pre := fun h => .inr h
 stop := fun h => h.ex
 call := by
  intro g vs o s K h
  simp only [AskR] at h
  split at h
  ·rename_i v hv
   obtain ⟨fr, H, n, sz, df, log, b⟩ := s
   exact askR_call hp hv h
  ·exact h.ex
 yld := fun h => h.ex
 dfr := fun h => by cases h
 loop := fun _ hs h => h.ex hs
 scope := fun _ hs h => h.ex hs
 range := fun _ hs hs' h => h.ex hs hs'
def end0 (T : Tab) (rs : List ResultVar) (K : AV → Heap → Nat → Prop) (e : Exit) (s : St) : Prop :=
 match e, s with
 | .normal, ⟨fr, H, n, _, [], _, _⟩ => match resL T fr H rs with
  | some l => K (outV l) H n
  | none => False
 | .ret, ⟨fr, H, n, _, [], _, _⟩ => match resL T fr H rs with
  | some l => K (outV l) H n
  | none => False
 | _, _ => False
theorem end0_retQ {P : Program} {T : Tab} {rs : List ResultVar} {K : AV → Heap → Nat → Prop} {e : Exit} {s : St} (h : end0 T rs K e s) : retQ (Ask P) T rs K e s := by
 obtain ⟨fr, H, n, sz, df, log, b⟩ := s
 cases e <;> cases df <;> simp only [end0, retQ, endQ] at h ⊢ <;> first | exact h.elim | skip
 all_goals
  split at h
  ·rename_i l hl
   simp only [hl, force_eq]; exact h
  ·exact h.elim
theorem Ctr.introR {P : Program} {T : Tab} (hT : TabOK P T) (hm : P.follows .mixedOrders = true) {pu : Pure} (hp : PureOK P pu) {f : FuncId} {fn : Func} {c : Code} {args : List AV} {R pre post : Heap} {n n' : Nat} {r : AV}
  (hf : P.funcs[f]? = some fn) (hb : fn.body = some c) (hst : (staticC c && (HasBody P f && Nat.ble n n')) = true) (hlen0 : Nat.ble args.length fn.ntmps = true) (hok : okL n args = true) (hokH : okH n (pre ++ R) = true) (hro : (roB R && domB pre post) = true)
  (h : vcCode (AskR P pu) T c (end0 T fn.results.toList (fun v H _ => Fin n n' r post v H)) ⟨frOf 0 args, pre ++ R, n, fn.ntmps, [], [], n⟩) : Ctr P f args R pre n n' r post := by
 have hst' := hst
 simp only [Bool.and_eq_true] at hst'
 refine Ctr.intro_sem hT hf hb hst hlen0 hok hokH hro ?_
 exact (vcCode_sound' hT hm (askROK P hp) c h hst'.1).mono fun e s h => end0_retQ h
theorem callR {P : Program} {g : FuncId} {args vs : List AV} {R pre post post' : Heap} {n n' : Nat} {r r' : AV} {o : Oper} {fr : Fr} {H : Heap} {N sz : Nat} {df : List Df}
  {log : List (List Nat × List Nat)} {b : Nat} {K : St → Prop} (σ : List Nat) (spec : Ctr P g args R pre n n' r post) (hpost : renH (sg σ N) post = post') (hr : renA (sg σ N) r = r')
  (hargs : renL (sg σ N) args = vs) (hcb : callB σ n N = true) (hR : HasAll H (sg σ N) R) (hp : HasAll H (sg σ N) pre)
  (hK : put0 o r' fr (post' ++ H) (N + (n' - n)) sz df log b (keysOf (renH (sg σ N) R)) (keysOf post') K) :
  AtCall P g vs o ⟨fr, H, N, sz, df, log, b⟩ K := by
 subst hpost; subst hr
 refine ⟨call σ spec ?_ hargs hcb hR hp⟩
 rw [pushH_eq]
 exact (put0_eq (P := P)) ▸ hK
theorem stop0 {P : Program} {o : Oper} {fr : Fr} {H R pre post : Heap} {n n' sz : Nat} {df : List Df} {log : List (List Nat × List Nat)} {b : Nat} {v : AV} {K : St → Prop} (t : Triple P o fr R pre n n' v post) (hn : n ≤ n')
  (hR : Sub R H) (hp : Sub pre H) (hdom : domB pre post = true) (hK : put0 o v fr (post ++ H) n' sz df log b (keysOf R) (keysOf post) K) : AtOp P o ⟨fr, H, n, sz, df, log, b⟩ K := by
 obtain ⟨k1, k2⟩ := putM_iff (askOK P).toOpAns ((put0_eq (P := P)) ▸ hK)
 refine ⟨?_⟩
 exact ⟨⟨true, R, pre, post, n, n', v, keysOf R, keysOf post⟩, rfl, rfl, hn, k1, t.y, hR, hp, domB_ok hdom, fun k x hk => look_map_dom hk, fun k x hk => look_map_dom hk, k2⟩
theorem call0 {P : Program} {g : FuncId} {vs : List AV} {o : Oper} {s : St} {K : St → Prop} (h : IsCall o s.fr g vs → AtOp P o s K) : AtCall P g vs o s K := ⟨fun hc => (h hc).ex⟩
theorem okL_app {n : Nat} {l m : List AV} : okL n (l ++ m) = (okL n l && okL n m) := by
 induction l with
 | nil => rfl
 | cons v l ih => simp only [List.cons_append, okL_cons, ih, Bool.and_assoc]
theorem renL_app {π : Nat → Nat} {l m : List AV} : renL π (l ++ m) = renL π l ++ renL π m := by
 induction l with
 | nil => simp [renL]
 | cons v l ih => simp [renL, ih]
theorem bare_app {l m : List AV} (h : l.all bareA = true) (k : m.all bareA = true) : (l ++ m).all bareA = true := by simp [List.all_append, h, k]
theorem bare_take {l : List AV} (n : Nat) (h : l.all bareA = true) : (l.take n).all bareA = true := by
 rw [List.all_eq_true] at h ⊢; intro x hx; exact h x (List.mem_of_mem_take hx)
theorem bare_drop {l : List AV} (n : Nat) (h : l.all bareA = true) : (l.drop n).all bareA = true := by
 rw [List.all_eq_true] at h ⊢; intro x hx; exact h x (List.mem_of_mem_drop hx)
theorem wrap_small {n : Int} (h0 : -9223372036854775808 ≤ n) (h1 : n < 9223372036854775808) : IntKind.i64.wrap n = n := by
 rw [IntKind.wrap_i64]; omega
theorem spine_rec {β α : Type} (l : List β) (K : List β → α) : (List.rec (motive := fun _ => (List β → α) → α) (fun K => K []) (fun v _ ih K => ih fun l => K (v :: l)) l : (List β → α) → α) K = K l := spine_eq
theorem splice_mid {A M l : List AV} {k : Nat} (h : A.length = k) : splice (A ++ M) k l = A ++ (l ++ M.drop l.length) := by
 subst h
 rw [splice_def, List.take_left, List.drop_append, List.drop_eq_nil_of_le (by omega), List.nil_append, Nat.add_sub_cancel_left]
theorem readsA_row {z h i len e k : Nat} {c rc : Option Nat} {cs : List AV} (hle : i * z + k * z ≤ cs.length) : readsA z (.sv h z i len c) (some (.row e z cs rc)) k = some ((cs.drop (i * z)).take (k * z)) := by
 simp [readsA, Nat.ble_eq_true_of_le hle]
theorem Ctr.weak {P : Program} {g : FuncId} {args : List AV} {R pre post post' : Heap} {n n' : Nat} {r : AV} (h : Ctr P g args R pre n n' r post)
  (hp : ∀ k q, look post' k = some q → look post k = some q ∨ (q = .gone ∧ ∃ q0, look post k = some q0)) (hdom : domB pre post' = true) : Ctr P g args R pre n n' r post' := by
 classical
 obtain ⟨hbody, hnn, _, spec⟩ := h
 refine ⟨hbody, hnn, hdom, ?_⟩
 intro env F w xs hx hsat hfresh
 refine Calls.mono (spec env F w xs hx hsat hfresh) ?_
 rintro e w' ⟨env', F', x, rfl, t, hden⟩
 let F'' : Foot := fun k b => look post' k ≠ some .gone ∧ F' k b
 have key : ∀ {k q}, look post' k = some q → q ≠ .gone → look post k = some q ∧ ∀ b, F'' k b ↔ F' k b := by
  intro k q hl hq
  rcases hp k q hl with h | ⟨h, _⟩
  ·exact ⟨h, fun b => ⟨fun h => h.2, fun h => ⟨fun e => hq (by rw [hl] at e; exact Option.some.inj e), h⟩⟩⟩
  ·exact absurd h hq
 refine ⟨env', F'', x, rfl, ⟨t.le, t.only, ⟨?_, ?_⟩, ?_, t.frame⟩, hden⟩
 ·intro k q hl
  by_cases hq : q = .gone
  ·subst hq
   have : ∃ q0, look post k = some q0 := by
    rcases hp k _ hl with h | ⟨_, h⟩
    ·exact ⟨_, h⟩
    ·exact h
   obtain ⟨q0, h0⟩ := this
   obtain ⟨v, hv, _⟩ := t.sat.sat h0
   exact ⟨v, hv, fun b hb => hb.1 hl⟩
  ·obtain ⟨h1, h2⟩ := key hl hq
   obtain ⟨v, hv, hs⟩ := t.sat.sat h1
   refine ⟨v, hv, ?_⟩
   have : F'' k = F' k := by funext b; exact propext (h2 b)
   rw [this]; exact hs
 ·intro k q k' q' hl hl' hne he b hb hb'
  have g1 : q ≠ .gone := by rintro rfl; exact hb.1 hl
  have g2 : q' ≠ .gone := by rintro rfl; exact hb'.1 hl'
  exact t.sat.apart (key hl g1).1 (key hl' g2).1 hne he b hb.2 hb'.2
 ·intro k q b hl hb
  have g1 : q ≠ .gone := by rintro rfl; exact hb.1 hl
  exact t.owns (key hl g1).1 hb.2
def Weaker (post : Heap) : Heap → Prop
 | [] => True
 | (k, q) :: l => (look post k = some q ∨ (q = .gone ∧ ∃ q0, look post k = some q0)) ∧ Weaker post l
theorem Weaker.get {post : Heap} : ∀ {l : Heap}, Weaker post l → ∀ k q, look l k = some q → look post k = some q ∨ (q = .gone ∧ ∃ q0, look post k = some q0)
 | [], _, k, q, hl => by simp [lookN] at hl
 | (c, p) :: l, h, k, q, hl => by
  rw [look_cons] at hl
  split at hl
  ·rename_i e; subst e; cases hl; exact h.1
  ·exact Weaker.get h.2 k q hl
theorem Ctr.weakL {P : Program} {g : FuncId} {args : List AV} {R pre post post' : Heap} {n n' : Nat} {r : AV} (h : Ctr P g args R pre n n' r post) (hp : Weaker post post') (hdom : domB pre post' = true) : Ctr P g args R pre n n' r post' :=
 h.weak hp.get hdom
theorem Weaker.keep {post : Heap} {k : Nat} {q : Res} {l : Heap} (h : look post k = some q) (t : Weaker post l) : Weaker post ((k, q) :: l) := ⟨.inl h, t⟩
theorem Weaker.drop {post : Heap} {k : Nat} {q0 : Res} {l : Heap} (h : look post k = some q0) (t : Weaker post l) : Weaker post ((k, .gone) :: l) := ⟨.inr ⟨rfl, q0, h⟩, t⟩
def orOv (a b : Ov) : Ov := fun g vs pre R n => match a g vs pre R n with
 | some r => some r
 | none => b g vs pre R n
theorem orOv_ok {P : Program} {a b : Ov} (ha : OvOK P a) (hb : OvOK P b) : OvOK P (orOv a b) := by
 intro g vs pre R n v post n' h
 unfold orOv at h
 split at h
 ·rename_i r hr; cases h; exact ha hr
 ·exact hb h
def insOv (f e : Nat) : Ov := fun g vs pre R n => match Nat.beq g f with
 | false => none
 | true => match vs with
  | [.sv h 2 0 L none, .int .i64 (.ofNat i), .sv hv 2 0 1 (some 1)] => match look pre h, look pre hv with
   | some (.row e1 2 cs none), some (.row e2 2 [.str k, .str v] (some 1)) =>
    match Nat.beq e1 e && (Nat.ble i L && (allR cs bareA && (Nat.beq (lenR cs) (Nat.mul L 2) && (Nat.ble (Nat.mul (Nat.add L 1) 2) room && (Nat.blt h n && (Nat.blt hv n && (!(Nat.beq h hv) && (roB R && (allR pre exB && domB pre [(h, .gone), (n, .gone), (hv, .gone)]))))))))) with
    | true => some (.sv n 2 0 (Nat.add L 1) none, [(h, .gone), (n, .row e 2 (appR (takeR (Nat.mul i 2) cs) (.str k :: .str v :: dropR (Nat.mul i 2) cs)) none), (hv, .row e2 2 [.str k, .str v] (some 1))], Nat.add n 1)
    | false => none
   | _, _ => none
  | _ => none
def InsSpec (P : Program) (f e : Nat) : Prop := ∀ {cs : List AV} {L e2 i : Nat} {k v : ByteArray}, cs.all bareA = true → cs.length = L * 2 → i ≤ L → (L + 1) * 2 ≤ room →
 Ctr P f [.sv 0 2 0 L none, .int .i64 i, .sv 1 2 0 1 (some 1)] [] [(0, .row e 2 cs none), (1, .row e2 2 [.str k, .str v] (some 1))] 2 3 (.sv 2 2 0 (L + 1) none)
  [(0, .gone), (2, .row e 2 (cs.take (i * 2) ++ [.str k, .str v] ++ cs.drop (i * 2)) none), (1, .row e2 2 [.str k, .str v] (some 1))]
theorem insOv_ok {P : Program} {f e : Nat} (hs : InsSpec P f e) : OvOK P (insOv f e) := by
 intro g vs pre R n v post n' h
 unfold insOv at h
 split at h
 ·cases h
 ·rename_i hg
  have hg := Nat.eq_of_beq_eq_true hg
  subst hg
  split at h
  ·rename_i h0 L i hv
   split at h
   ·rename_i e1 cs e2 k w hl1 hl2
    split at h
    ·rename_i hb
     simp only [Bool.and_eq_true, Bool.not_eq_true', allR_eq, lenR_eq] at hb
     obtain ⟨b1, b2, b3, b4, b5, b6, b7, b8, b9, b10, b11⟩ := hb
     have b1 := Nat.eq_of_beq_eq_true b1
     subst b1
     have b2 := Nat.le_of_ble_eq_true b2
     have b4 : cs.length = L * 2 := Nat.eq_of_beq_eq_true b4
     have b5 : (L + 1) * 2 ≤ room := Nat.le_of_ble_eq_true b5
     have b8 : h0 ≠ hv := fun e => by rw [e, Nat.beq_refl] at b8; cases b8
     have b6 : h0 < n := Nat.le_of_ble_eq_true b6
     have b7 : hv < n := Nat.le_of_ble_eq_true b7
     simp only [Option.some.injEq, Prod.mk.injEq] at h
     obtain ⟨rfl, rfl, rfl⟩ := h
     have c0 := (hs (e2 := e2) (i := i) (k := k) (v := w) b3 b4 b2 b5).ren (N := n) [h0, hv] (by
      simp only [callB, nodupB, List.length_cons, List.length_nil, List.any_cons, List.any_nil, Bool.or_false, List.all_cons, List.all_nil, Bool.and_true, Bool.and_eq_true, Bool.not_eq_true', Nat.blt_eq]
      exact ⟨rfl, ⟨by rw [beqD]; simpa using b8, trivial⟩, b6, b7⟩)
     have s0 : sg [h0, hv] n 0 = h0 := rfl
     have s1 : sg [h0, hv] n 1 = hv := rfl
     have s2 : sg [h0, hv] n 2 = n := rfl
     simp only [renL, renA, renH, renR, s0, s1, s2, renL_app, bare_ren b3, bare_ren (bare_take _ b3), bare_ren (bare_drop _ b3)] at c0
     have c1 := c0.frame (R' := R) (pre' := pre) (fun k q hl => by
       have := (roB_all R) ▸ b9
       have := List.all_eq_true.1 this _ (look_mem hl)
       simpa using this)
      (fun k q hl => by
       simp only [look_cons, lookN] at hl
       split at hl
       ·cases hl; rfl
       ·split at hl
        ·cases hl; rfl
        ·cases hl) (fun k q hl => by simp [lookN] at hl)
      (fun k q hl => by
       rw [look_append]
       simp only [look_cons, lookN] at hl
       split at hl
       ·rename_i e; subst e; rw [hl1]; simpa using hl
       ·split at hl
        ·rename_i e; subst e; rw [hl2]; simpa using hl
        ·cases hl)
     have hd : domB pre [(h0, Res.gone), (n, .row e1 2 (cs.take (i * 2) ++ [.str k, .str w] ++ cs.drop (i * 2)) none), (hv, .row e2 2 [.str k, .str w] (some 1))] = true := b11
     have c2 := c1.weak (post' := [(h0, Res.gone), (n, .row e1 2 (cs.take (i * 2) ++ [.str k, .str w] ++ cs.drop (i * 2)) none), (hv, .row e2 2 [.str k, .str w] (some 1))]) (fun k q hl => .inl (by rw [look_append, hl]; rfl)) hd
     have hfin : appR (takeR (Nat.mul i 2) cs) (AV.str k :: AV.str w :: dropR (Nat.mul i 2) cs) = cs.take (i * 2) ++ [.str k, .str w] ++ cs.drop (i * 2) := by
      simp only [appR_eq, takeR_eq, dropR_eq, List.append_assoc, List.cons_append, List.nil_append]; rfl
     rw [hfin]
     exact c2
    ·cases h
   ·cases h
  ·cases h
def delOv (f e : Nat) : Ov := fun g vs pre R n => match Nat.beq g f with
 | false => none
 | true => match vs with
  | [.sv h 2 0 L none, .int .i64 (.ofNat i), .int .i64 (.ofNat j)] => match look pre h with
   | some (.row e1 2 cs none) =>
    match Nat.beq e1 e && (Nat.beq j (Nat.add i 1) && (Nat.blt i L && (allR cs bareA && (Nat.beq (lenR cs) (Nat.mul L 2) && (Nat.ble (Nat.mul L 2) room && (Nat.blt h n && (roB R && (allR pre exB && domB pre [(h, .gone), (n, .gone)])))))))) with
    | true => some (.sv n 2 0 (Nat.sub L 1) none, [(h, .gone), (n, .row e 2 (appR (takeR (Nat.mul i 2) cs) (dropR (Nat.mul j 2) cs)) none)], Nat.add n 1)
    | false => none
   | _ => none
  | _ => none
def DelSpec (P : Program) (f e : Nat) : Prop := ∀ {cs : List AV} {L i : Nat}, cs.all bareA = true → cs.length = L * 2 → i < L → L * 2 ≤ room →
 Ctr P f [.sv 0 2 0 L none, .int .i64 i, .int .i64 ((i + 1 : Nat) : Int)] [] [(0, .row e 2 cs none)] 1 2 (.sv 1 2 0 (L - 1) none) [(0, .gone), (1, .row e 2 (cs.take (i * 2) ++ cs.drop ((i + 1) * 2)) none)]
end
end Go.SX
-- MERGED
-- SQUEEZED
