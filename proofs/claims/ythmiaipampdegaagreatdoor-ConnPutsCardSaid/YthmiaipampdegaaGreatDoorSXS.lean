/- SX, part S: a slice whose capacity is not known: what holds whatever it is. -/
import Derived.Test.YthmiaipampdegaaGreatDoorSXZ
import Derived.Lib.AppendZerosOnto
import Derived.Lib.Overlaps
namespace Go.SX
noncomputable section

/-- The same handles, as exclusive ones. -/
def Alike (pre pre' : Heap) : Prop := ∀ h, (look pre h).map Res.excl = (look pre' h).map Res.excl

theorem Alike.symm {pre pre' : Heap} (h : Alike pre pre') : Alike pre' pre := fun k => (h k).symm
theorem Alike.at {pre pre' : Heap} (h : Alike pre pre') {k : Nat} {r : Res} (hl : look pre k = some r) : ∃ r', look pre' k = some r' ∧ r'.excl = r.excl := by
  have := h k
  rw [hl] at this
  cases hl' : look pre' k with
  | none => rw [hl'] at this; cases this
  | some r' => rw [hl'] at this; simp only [Option.map_some, Option.some.injEq] at this; exact ⟨r', rfl, this.symm⟩

theorem Alike.owned {pre pre' : Heap} (h : Alike pre pre') (F : Foot) : Owned pre F = Owned pre' F := by
  funext b
  apply propext
  constructor
  · rintro ⟨k, r, h1, h2, h3⟩
    obtain ⟨r', e1, e2⟩ := h.at h1
    exact ⟨k, r', e1, e2.trans h2, h3⟩
  · rintro ⟨k, r, h1, h2, h3⟩
    obtain ⟨r', e1, e2⟩ := h.symm.at h1
    exact ⟨k, r', e1, e2.trans h2, h3⟩

theorem Turn.alike {n n' : Nat} {R pre pre' post : Heap} {env env' : Env} {F F' : Foot} {w w' : World} (h : Alike pre pre') (t : Turn n n' R pre post env F w env' F' w') : Turn n n' R pre' post env F w env' F' w' := by
  refine ⟨t.le, t.only, t.sat, ?_, h.owned F ▸ t.frame⟩
  intro k r b hl hb
  rcases t.owns hl hb with ⟨h0, r0, e1, e2, e3⟩ | e | e
  · obtain ⟨r', q1, q2⟩ := h.at e1
    exact .inl ⟨h0, r', q1, e2, fun he => q2.trans (e3 he)⟩
  · exact .inr (.inl e)
  · exact .inr (.inr e)

/-- Whatever the capacity is. -/
theorem Ctr.any_cap {P : Program} {g : FuncId} {h z len e n n' : Nat} {cs as : List AV} {R pre post : Heap} {v : AV}
    (hc : ∀ C, len ≤ C → cs.length ≤ C * z → Ctr P g (.sv h z 0 len (some C) :: as) R ((h, .row e z cs (some C)) :: pre) n n' v post) (hz : 0 < z) :
    Ctr P g (.sv h z 0 len none :: as) R ((h, .row e z cs none) :: pre) n n' v post := by
  obtain ⟨hb, hn, hd, -⟩ := hc (len + cs.length) (by omega) (Nat.le_trans (by omega) (Nat.le_mul_of_pos_right (len + cs.length) hz))
  refine ⟨hb, hn, hd, ?_⟩
  intro env F w xs hden hs hf
  obtain ⟨v0, e0, s0⟩ := hs.sat (h := h) (r := .row e z cs none) (by simp [lookC, Nat.beq_refl])
  obtain ⟨b, o, m, C, ys, lo, hi, us, tl, rw0⟩ := rowAt.1 s0
  simp only [Dens] at hden
  obtain ⟨x, xl, hxs, hx, hxl⟩ := hden
  obtain ⟨b', o', m', C', p, c, q1, q2, q3, q4, q5, q6, q7⟩ := den_sv.1 hx
  rw [e0, rw0.val] at q1
  simp only [Option.some.injEq, Value.slice.injEq, Addr.mk.injEq] at q1
  obtain ⟨⟨rfl, rfl, -⟩, rfl, rfl⟩ := q1
  have hcC : c = C := by have := q5 rfl; omega
  subst hcC
  have hlen := rw0.len
  have spec := (hc c q3 (by omega)).2.2.2 env F w xs ?_ ?_ hf
  · refine spec.mono ?_
    rintro e1 w' ⟨env', F', y, h1, t, hy⟩
    refine ⟨env', F', y, h1, Turn.alike ?_ t, hy⟩
    intro k
    rw [look_cons, look_cons]
    by_cases ek : h = k
    · rw [if_pos ek, if_pos ek]; rfl
    · rw [if_neg ek, if_neg ek]
  · simp only [Dens]
    exact ⟨x, xl, hxs, den_sv.2 ⟨b, o, m, c, p, c, by rw [e0, rw0.val], q2, q3, q4, fun hk => (by cases hk), fun k hk => by cases hk; rfl, q7⟩, hxl⟩
  · refine ⟨?_, ?_⟩
    · intro k r hl
      rw [List.cons_append, look_cons] at hl
      split at hl
      · rename_i ek
        subst ek; cases hl
        exact ⟨v0, e0, rowAt.2 ⟨b, o, m, c, ys, lo, hi, us, tl, ⟨rw0.val, rw0.foot, rw0.at_, rw0.fz, rw0.size, rw0.split, rw0.den, fun k hk => by cases hk; rfl⟩⟩⟩
      · rename_i ek
        exact hs.sat (h := k) (by rw [List.cons_append, look_cons, if_neg ek]; exact hl)
    · have up : ∀ {k r}, look ((h, Res.row e z cs (some c)) :: pre ++ R) k = some r → ∃ r', look ((h, Res.row e z cs none) :: pre ++ R) k = some r' ∧ r'.excl = r.excl := by
        intro k r hl
        rw [List.cons_append, look_cons] at hl ⊢
        split at hl
        · rename_i ek
          cases hl
          exact ⟨.row e z cs none, by rw [if_pos ek], rfl⟩
        · rename_i ek
          exact ⟨r, by rw [if_neg ek]; exact hl, rfl⟩
      intro k r k' r' hl hl' hne he b hb hb'
      obtain ⟨r1, u1, u2⟩ := up hl
      obtain ⟨r2, u3, u4⟩ := up hl'
      exact hs.apart u1 u3 hne (u2.trans he) b hb hb'

/-- The row of a slice, under a new handle. -/
theorem Ctr.rebase {P : Program} {g : FuncId} {args : List AV} {R pre post post' : Heap} {n n1 h z L C e : Nat} {cs cs' : List AV}
    (hc : Ctr P g args R pre n n1 (.sv h z 0 L (some C)) post) (hl : look post h = some (.row e z cs (some C))) (hcs : ∃ tl, cs = cs' ++ tl)
    (hp : ∀ k r, look post' k = some r → k ≠ h → look post k = some r) (hdom : domB pre ((h, .gone) :: (n1, .row e z cs' none) :: post') = true) :
    Ctr P g args R pre n (n1 + 1) (.sv n1 z 0 L none) ((h, .gone) :: (n1, .row e z cs' none) :: post') := by
  obtain ⟨hb, hn, hd, spec⟩ := hc
  refine ⟨hb, by omega, hdom, ?_⟩
  intro env F w xs hden hs hf
  refine (spec env F w xs hden hs fun k h1 h2 => hf k h1 (by omega)).mono ?_
  rintro e1 w' ⟨env', F', x, rfl, t, hx⟩
  obtain ⟨tl0, rfl⟩ := hcs
  have hnone : env' n1 = none := by rw [t.only n1 (by omega)]; exact hf n1 hn (by omega)
  obtain ⟨v0, e0, s0⟩ := t.sat.sat hl
  obtain ⟨b, o, m, C1, ys, lo, hi, us, tl, rw0⟩ := rowAt.1 s0
  have hC : C1 = C := rw0.cap C rfl
  subst hC
  obtain ⟨b', o', m', C', p, c, q1, q2, q3, q4, q5, q6, q7⟩ := den_sv.1 hx
  rw [e0, rw0.val] at q1
  simp only [Option.some.injEq, Value.slice.injEq, Addr.mk.injEq] at q1
  obtain ⟨⟨rfl, rfl, -⟩, rfl, rfl⟩ := q1
  have hcC : c = C1 := q6 _ rfl
  subst hcC
  have hne : h ≠ n1 := by rintro rfl; rw [hnone] at e0; cases e0
  have hle : env'.le (env'.set n1 v0) := Env.le_set hnone
  classical
  let F'' : Foot := fun k => if k = n1 then F' h else if k = h then fun _ => False else F' k
  have fn : F'' n1 = F' h := by simp [F'']
  have fh : F'' h = fun _ => False := by simp [F'', hne]
  have fo : ∀ k, k ≠ n1 → k ≠ h → F'' k = F' k := fun k h1 h2 => by simp [F'', h1, h2]
  obtain ⟨us1, us2, hus, hd1, hd2⟩ := dens_append_inv rw0.den
  have look3 : ∀ {k r}, look ((h, Res.gone) :: (n1, Res.row e z cs' none) :: post') k = some r → (k = h ∧ r = .gone) ∨ (k = n1 ∧ r = .row e z cs' none) ∨ (k ≠ h ∧ k ≠ n1 ∧ look post k = some r) := by
    intro k r hk
    rw [look_cons] at hk
    split at hk
    · rename_i ek; cases hk; exact .inl ⟨ek.symm, rfl⟩
    · rename_i ek
      rw [look_cons] at hk
      split at hk
      · rename_i ek2; cases hk; exact .inr (.inl ⟨ek2.symm, rfl⟩)
      · rename_i ek2
        exact .inr (.inr ⟨fun e => ek e.symm, fun e => ek2 e.symm, hp k r hk fun e => ek e.symm⟩)
  refine ⟨env'.set n1 v0, F'', x, rfl, ⟨t.le.trans hle, ?_, ⟨?_, ?_⟩, ?_, t.frame⟩, ?_⟩
  · intro k hk
    unfold Env.set
    rw [if_neg (by omega)]
    exact t.only k (by omega)
  · intro k r hk
    rcases look3 hk with ⟨rfl, rfl⟩ | ⟨rfl, rfl⟩ | ⟨k1, k2, k3⟩
    · exact ⟨v0, hle _ _ e0, by rw [fh]; exact fun b hb => hb⟩
    · refine ⟨v0, Env.set_same _ _ _, ?_⟩
      rw [fn]
      exact rowAt.2 ⟨b, o, m, c, ys, lo, hi, us1, us2 ++ tl, ⟨rw0.val, rw0.foot, rw0.at_, rw0.fz, rw0.size, by rw [rw0.split, hus, List.append_assoc], Dens.mono hle _ hd1, fun k hk => by cases hk⟩⟩
    · obtain ⟨v1, u1, u2⟩ := t.sat.sat k3
      refine ⟨v1, hle _ _ u1, ?_⟩
      rw [fo k k2 k1]
      exact Res.sat_stable hle (fun _ _ => rfl) u2
  · intro k r k' r' hk hk' hkk he b1 hb1 hb2
    rcases look3 hk with ⟨rfl, rfl⟩ | ⟨rfl, rfl⟩ | ⟨k1, k2, k3⟩
    · rw [fh] at hb1; exact hb1
    · rw [fn] at hb1
      rcases look3 hk' with ⟨rfl, rfl⟩ | ⟨rfl, rfl⟩ | ⟨j1, j2, j3⟩
      · rw [fh] at hb2; exact hb2
      · exact hkk rfl
      · rw [fo k' j2 j1] at hb2
        exact t.sat.apart hl j3 (fun e => j1 e.symm) rfl b1 hb1 hb2
    · rw [fo k k2 k1] at hb1
      rcases look3 hk' with ⟨rfl, rfl⟩ | ⟨rfl, rfl⟩ | ⟨j1, j2, j3⟩
      · rw [fh] at hb2; exact hb2
      · rw [fn] at hb2
        exact t.sat.apart k3 hl k1 he b1 hb1 hb2
      · rw [fo k' j2 j1] at hb2
        exact t.sat.apart k3 j3 hkk he b1 hb1 hb2
  · intro k r b1 hk hb1
    rcases look3 hk with ⟨rfl, rfl⟩ | ⟨rfl, rfl⟩ | ⟨k1, k2, k3⟩
    · rw [fh] at hb1; exact hb1.elim
    · rw [fn] at hb1
      rcases t.owns hl hb1 with ⟨h0, r0, a1, a2, a3⟩ | ⟨h0, r0, a1, a2, a3, a4⟩ | a
      · exact .inl ⟨h0, r0, a1, a2, fun _ => a3 rfl⟩
      · cases a4
      · exact .inr (.inr a)
    · rw [fo k k2 k1] at hb1
      exact t.owns k3 hb1
  · refine den_sv.2 ⟨b, o, m, c, p, c, by rw [Env.set_same, rw0.val], q2, q3, q4, fun _ => by omega, fun k hk => (by cases hk), q7⟩
where
  dens_append_inv {env : Env} {l m : List AV} {xs : List Value} (h : Dens env (l ++ m) xs) : ∃ a b, xs = a ++ b ∧ Dens env l a ∧ Dens env m b := by
    induction l generalizing xs with
    | nil => exact ⟨[], xs, rfl, by simp [Dens], h⟩
    | cons v l ih =>
      simp only [List.cons_append, Dens] at h
      obtain ⟨y, ys, rfl, h1, h2⟩ := h
      obtain ⟨a, b, rfl, h3, h4⟩ := ih h2
      exact ⟨y :: a, b, rfl, by simp only [Dens]; exact ⟨y, a, rfl, h1, h3⟩, h4⟩

/-- append of a made slice, for sure beyond the capacity: a new row. -/
theorem triple_app_make {P : Program} {T : Tab} (hT : TabOK P T) {o : Oper} {fr : Fr} {n h t t' e sz i len k C : Nat} {ag : Bool} {z cs : List AV} {kk : TK} {kn kq : IntKind} {x y : Operand} {R : Heap} {rc : Option Nat}
    (ho : isAppend o x y t t') (hx : ev fr x = some (.sv h sz i len (some C))) (hy : ev fr y = some (.int kq (k : Nat))) (hk : kindOf T t = .slice e) (hk' : kindOf T t' = .int kn) (hr : T e = some ⟨ag, sz, z, kk⟩) (hzl : z.length = sz)
    (hlk : look R h = some (.row e sz cs rc)) (hin : (i + len) * sz ≤ cs.length)
    (hz0 : 0 < sz) (hk0 : 0 < k) (hroom : (len + k) * sz ≤ room) (hcap : C < len + k) :
    Triple P o fr R [] n (n + 1) (.sv n sz 0 (len + k) none) [(n, .row e sz ((cs.drop (i * sz)).take (len * sz) ++ repA k sz z) none)] := by
  intro env F a w next Q hn hs hfresh hkk
  have hn' := hfresh n (Nat.le_refl _) (by omega)
  have hd1 := ev_den hn (by rw [ho]; simp [Op.operands, Call.operands]) hx
  have hd2 := ev_den hn (by rw [ho]; simp [Op.operands, Call.operands]) hy
  simp only [Den] at hd2
  obtain ⟨hu, iv, zv, g1, g2, g3, g4, g5, g6⟩ := elem_info hT hk hr hzl
  obtain ⟨dn, hun, h5⟩ := kindOf_ok hT hk' (by simp)
  simp only [KindOK] at h5; subst h5
  have hs' : SatH env R F w := by simpa using hs
  obtain ⟨olds, ho1, ho2, ho3⟩ := readsA_ok (P := P) (y := .sv h sz i len (some C)) (r := some (.row e sz cs rc)) (z := sz) (k := len) (n := len) (ws := (cs.drop (i * sz)).take (len * sz)) hs'
    (fun h' hh => by simp only [srcH, Option.some.injEq] at hh; subst hh; exact ⟨_, rfl, hlk⟩) hd1 (by
      unfold readsA
      have : Nat.ble (i * sz + len * sz) cs.length = true := Nat.ble_eq_true_of_le (by rw [← Nat.add_mul]; exact hin)
      simp only [Nat.beq_refl, this, Bool.and_self]) rfl (Nat.le_refl _)
  obtain ⟨b, o1, m, C', p, cc, q1, q2, q3, q4, q5, q6, q7⟩ := den_sv.1 hd1
  have hcc : cc = C := q6 C rfl
  subst hcc
  obtain ⟨b1, b2⟩ := grow_bound g6 hroom hcap hz0
  have hold := ho1 w.drew rfl
  rw [q2, ← g2] at hold
  have h48 : k * iv.bytes ≤ 281474976710656 := by
    have h1 : k * iv.bytes ≤ k * (32 * sz) := Nat.mul_le_mul_left _ g6
    have h2 : k * (32 * sz) = 32 * (k * sz) := by rw [Nat.mul_left_comm]
    have h3 : k * sz ≤ (len + k) * sz := Nat.mul_le_mul_right _ (by omega)
    unfold room at hroom; omega
  have hrun := Lib.run_append_grow_zeros (P := P) w t t' o.type e iv zv kq kn hu hun g1 g3 (some p) len cc olds hold k hk0 (by rw [g2]; exact hz0) hcap b2 h48 b1
  unfold Oper.wp
  rw [append_ex ho (by rw [q2, hd2]; exact hrun)]
  have hge := grownCap_ge w (len + k) cc e
  have hmul : len * sz + k * sz + (grownCap w (len + k) cc e - (len + k)) * sz = grownCap w (len + k) cc e * sz := by
    rw [← Nat.add_mul, ← Nat.add_mul]; congr 1; omega
  have hzd : Dens env (repA k sz z) (Builtin.zeroCells zv.cells k).toList := by
    have := repA_den (m := k) (sz := sz) (g5 env) hzl (Nat.mul_ne_zero (by omega) (by omega))
    simpa [Builtin.zeroCells, g4] using this
  refine hkk _ _ _ _ (Turn.row_new (w1 := w.drew) (ys := olds ++ (Builtin.zeroCells zv.cells k).toList) (tl := (Builtin.zeroCells zv.cells (grownCap w (len + k) cc e - (len + k))).toList) (lo := 0) (hi := 0) (C := grownCap w (len + k) cc e) hn' ⟨rfl, rfl, rfl, rfl⟩ ?_ ?_ (ho3.append hzd) (.inr (Nat.le_refl _)) (fun k hk => by cases hk))
    (sv_new hge (fun k hk => by cases hk))
  · simp [zeroCells_size, g4, ho2]; omega
  · simp

/-- Whether two slices of different rows overlap. -/
def OverFn (P : Program) (g : FuncId) (ts tb : TypeId) : Prop :=
  ∃ fn, P.funcs[g]? = some fn ∧ (fn.name == "runtime.NumGoroutine") = false ∧ fn.body.isNone = true ∧ Extern.findNext fn = none ∧ Extern.find fn = some (Extern.SlicesOverlaps.overlaps #[ts, ts] #[tb])

theorem triple_overlaps {P : Program} {T : Tab} (hT : TabOK P T) {o : Oper} {fr : Fr} {n g h1 h2 e1t e2t z i1 i2 l1 l2 ts tb e : Nat} {c1 c2 r1 r2 : Option Nat} {cs1 cs2 : List AV} {ag : Bool} {zz : List AV} {kk : TK} {R : Heap}
    (hf : OverFn P g ts tb) (hk : kindOf T ts = .slice e) (hr : T e = some ⟨ag, z, zz, kk⟩) (hz1 : 1 < z) (hcall : IsCall o fr g [.sv h1 z i1 l1 c1, .sv h2 z i2 l2 c2]) (hne : h1 ≠ h2)
    (hk1 : look R h1 = some (.row e1t z cs1 r1)) (hk2 : look R h2 = some (.row e2t z cs2 r2)) (hp : 0 < l1) (hp2 : 0 < l2) :
    Triple P o fr R [] n n (.bool false) [] := by
  intro env F a w next Q hneed hsat hfresh hkk
  have hs' : SatH env R F w := by simpa using hsat
  obtain ⟨xs, hx, hrun⟩ := evs_call hneed hcall
  obtain ⟨fn, f1, f2, f3, f4, f5⟩ := hf
  simp only [Dens] at hx
  obtain ⟨x, xl, hxs, hd1, y, yl, rfl, hd2, rfl⟩ := hx
  have hxe : xs = #[x, y] := by apply Array.ext'; simpa using hxs
  obtain ⟨b, o1, m, C, p, cc, q1, q2, q3, q4, q5, q6, q7⟩ := den_sv.1 hd1
  obtain ⟨b', o1', m', C', p', cc', u1, u2, u3, u4, u5, u6, u7⟩ := den_sv.1 hd2
  have hpp := q7 (by omega)
  have hpp' := u7 (by omega)
  subst hpp; subst hpp'
  obtain ⟨v1, e1, s1⟩ := hs'.sat hk1
  obtain ⟨v2, e2, s2⟩ := hs'.sat hk2
  obtain ⟨bb, oo, mm, CC, ys, lo, hi, us, tl, rw1⟩ := rowAt.1 s1
  obtain ⟨bb', oo', mm', CC', ys', lo', hi', us', tl', rw2⟩ := rowAt.1 s2
  rw [e1, rw1.val] at q1
  rw [e2, rw2.val] at u1
  simp only [Option.some.injEq, Value.slice.injEq, Addr.mk.injEq] at q1 u1
  obtain ⟨⟨rfl, rfl, -⟩, rfl, rfl⟩ := q1
  obtain ⟨⟨rfl, rfl, -⟩, rfl, rfl⟩ := u1
  have hbb : bb ≠ bb' := fun e => hs'.apart hk1 hk2 hne rfl bb ((rw1.foot bb).2 rfl) ((rw2.foot bb).2 e)
  have hlo : hi ≤ lo := rw1.fz.resolve_left fun h => by omega
  obtain ⟨d, hu, h5⟩ := kindOf_ok hT hk (by simp)
  simp only [KindOK] at h5; subst h5
  have hzz := (row_info hT hr w).1
  have hsz : ∀ w, (sizeOf e).run P w = .ok z w := fun w => (row_info hT hr w).1
  have hszpos : ys'.size ≠ 0 := by
    have := rw2.size
    have h2 : 1 * z ≤ CC' * z := Nat.mul_le_mul_right _ (by omega)
    omega
  have hfro : ∀ k, w.frozen? ⟨bb, k, none⟩ = false := by
    intro k
    simp only [World.frozen?, rw1.at_, Bool.and_eq_false_imp, decide_eq_true_eq, decide_eq_false_iff_not]
    intro h; omega
  have hrun2 : (callFunc g #[x, y]).run P w = .ok (.value (.bool false)) w := by
    rw [run_callFunc_extern f1 f2 f3 f4 f5, q2, u2,
      Lib.run_overlaps_apart w ts tb e hu z hsz ⟨bb, oo + i1 * z, none⟩ ⟨bb', oo' + i2 * z, none⟩ l1 cc l2 cc' hbb e1t e2t ys.size ys'.size (by simp only [World.shape?, rw1.at_]) (by simp only [World.shape?, rw2.at_]) hszpos (hfro _) (hfro _)]
    rfl
  unfold Oper.wp
  rw [hrun, hxe, hrun2]
  exact hkk env F _ w ⟨Env.le.refl _, fun _ _ => rfl, ⟨fun h => by simp [lookN] at h, fun h => by simp [lookN] at h⟩, fun h => by simp [lookN] at h, FrameW.refl _ _⟩ (by simp only [Den])

end
end Go.SX
