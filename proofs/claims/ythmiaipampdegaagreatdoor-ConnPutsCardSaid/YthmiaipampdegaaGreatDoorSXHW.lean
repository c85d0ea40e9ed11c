/- SX, part HW: operations on rows and maps in which little happens. -/
import Derived.Test.YthmiaipampdegaaGreatDoorSXHV
namespace Go.SX
noncomputable section

/-- Nothing is appended to nothing. -/
theorem triple_app_nil0 {P : Program} {T : Tab} (hT : TabOK P T) {o : Oper} {fr : Fr} {n t t' e sz : Nat} {ag : Bool} {z : List AV} {kk : TK} {x y : Operand} {R : Heap} {yv : AV} {r : Option Res}
    (ho : isAppend o x y t t') (hx : ev fr x = some .nils) (hy : ev fr y = some yv) (hk : kindOf T t = .slice e) (hr : T e = some ⟨ag, sz, z, kk⟩) (hzl : z.length = sz)
    (hk' : (∃ e, kindOf T t' = .slice e) ∨ kindOf T t' = .str) (hsr : ∀ h, srcH yv = some h → ∃ q, r = some q ∧ look R h = some q) (hln : lenA yv r = some 0) (hrd : readsA sz yv r 0 = some []) :
    Triple P o fr R [] n n .nils [] := by
  intro env F a w next Q hn hs hfresh hkk
  have hd1 := ev_den hn (by rw [ho]; simp [Op.operands, Call.operands]) hx
  have hd2 := ev_den hn (by rw [ho]; simp [Op.operands, Call.operands]) hy
  obtain ⟨hu, iv, zv, g1, g2, g3, g4, g5, g6⟩ := elem_info hT hk hr hzl
  obtain ⟨news, hsrc, hden⟩ := src_of (P := P) hT (H := R) (by simpa using hs) hsr hd2 hrd hln hk' rfl
  have hd1' := hd1
  simp only [Den] at hd1'
  have hn0 : news = [] := List.eq_nil_of_length_eq_zero (by have := hsrc.newsLen; simpa using this)
  subst hn0
  have hrun : (Builtin.append_ #[t, t'] o.type #[a.eval x, a.eval y]).run P w = .ok (a.eval x) w := by
    rw [hd1']
    rcases hsrc.kind with ⟨e', hk⟩ | hk <;> simp [Builtin.append_, run_underlying hu, run_underlying hk, sizeOf, typeInfo, g1, g2, hsrc.len, hsrc.cells]
  unfold Oper.wp
  rw [append_ex ho hrun]
  exact hkk env F _ w (Turn.refl _ _ _ _ _) hd1

def emptyS : AV → Bool
  | .nils => true
  | .sv _ _ _ 0 _ => true
  | .slc _ _ 0 _ => true
  | _ => false

theorem triple_clear_zero {P : Program} {T : Tab} (hT : TabOK P T) {o : Oper} {fr : Fr} {n t e : Nat} {x : Operand} {xv : AV}
    (ho : o.op = .call { callee := .builtin .clear, args := #[x], argTypes := #[t] }) (hx : ev fr x = some xv) (hk : kindOf T t = .slice e) (he : emptyS xv = true) :
    Triple P o fr [] [] n n (.tup []) [] := by
  refine triple_val fun env a w hn => ?_
  have hd1 := ev_den hn (by rw [ho]; simp [Op.operands, Call.operands]) hx
  obtain ⟨d, hu, h5⟩ := kindOf_ok hT hk (by simp)
  simp only [KindOK] at h5; subst h5
  have hv : ∃ p c, a.eval x = .slice p 0 c := by
    unfold emptyS at he
    split at he
    · simp only [Den] at hd1; exact ⟨_, _, hd1⟩
    · obtain ⟨b, o1, m, C, p, cc, q1, q2, _⟩ := den_sv.1 hd1; exact ⟨_, _, q2⟩
    · simp only [Den] at hd1; obtain ⟨b, _, h⟩ := hd1; exact ⟨_, _, h⟩
    · cases he
  obtain ⟨p, c, hv⟩ := hv
  refine ⟨.tuple #[], ?_, by simp only [Den]; exact ⟨#[], rfl, by simp [Dens]⟩⟩
  simp only [execOp, ho, resolve, invoke, builtin, Sem.run_bind, Sem.run_pure, Result.andThen_ok]
  simp only [List.map_toArray, List.map_cons, List.map_nil]
  cases p <;> simp [Builtin.clear_, run_underlying hu, hv]

theorem denM_length {env : Env} : ∀ {L : List (AV × AV)} {es : List MapEntry}, DenM env L es → es.length = L.length
  | [], es, h => by simp only [DenM] at h; subst h; rfl
  | (k, v) :: L, es, h => by
    simp only [DenM] at h
    obtain ⟨e, t, rfl, _, _, h3⟩ := h
    simp [denM_length h3]

theorem triple_maplen {P : Program} {T : Tab} (hT : TabOK P T) {o : Oper} {fr : Fr} {n h t kt et : Nat} {fl : List LK} {x : Operand} {L : List (AV × AV)}
    (ho : o.op = .call { callee := .builtin .len, args := #[x], argTypes := #[t] }) (hx : ev fr x = some (.hd h)) (hm : kindOf T t = .map kt et fl) :
    Triple P o fr [(h, .map L)] [] n n (.int .i64 L.length) [] := by
  intro env F a w next Q hneed hsat hfresh hkk
  have d1 := ev_den hneed (by rw [ho]; simp [Op.operands, Call.operands]) hx
  simp only [Den] at d1
  obtain ⟨e1, _⟩ := d1
  obtain ⟨v1, hv1, b, xs, clock, q1, q2, q3, q4, q5⟩ := hsat.sat (h := h) (r := .map L) (by simp [lookN, lookC, Nat.beq_refl])
  rw [e1] at hv1; cases hv1
  obtain ⟨d, hu, hd⟩ := kindOf_ok hT hm (by simp)
  obtain ⟨rfl, hfl⟩ := hd
  have hl := denM_length q4
  unfold Oper.wp
  have hrun : (execOp a.eval o).run P w = .ok (.value (goInt xs.size)) w := by
    simp only [execOp, ho, resolve, invoke, builtin, Sem.run_bind, Sem.run_pure, Result.andThen_ok]
    simp only [List.map_toArray, List.map_cons, List.map_nil]
    simp [Builtin.len_, run_underlying hu, q1, run_getObj_at q3]
  rw [hrun]
  exact hkk env F _ w (Turn.refl _ _ _ _ _) (by simp only [Den, goInt]; simp at hl; rw [hl])

theorem triple_lookup_nil {P : Program} {T : Tab} (hT : TabOK P T) {o : Oper} {fr : Fr} {n t kt et : Nat} {fl : List LK} {x k : Operand} {ok : Bool} {kv z : AV} {r : TRow}
    (ho : o.op = .lookup t x k ok) (hm : kindOf T t = .map kt et fl) (hx : ev fr x = some .nilm) (hk : ev fr k = some kv) (hkf : keyFit T kt fl kv = true) (hr : T et = some r) (hz : zeroA r = some z) :
    Triple P o fr [] [] n n (okA' ok z false) [] := by
  refine triple_val fun env a w hneed => ?_
  have d1 := ev_den hneed (by rw [ho]; simp [Op.operands]) hx
  have d2 := ev_den hneed (by rw [ho]; simp [Op.operands]) hk
  simp only [Den] at d1
  obtain ⟨d, hu, hd⟩ := kindOf_ok hT hm (by simp)
  obtain ⟨rfl, hfl⟩ := hd
  obtain ⟨f1, f2, f3⟩ := keyFit_ok hT hfl hkf d2
  have hck := checkKey_fit (w := w) (D := 10000) (em := true) (by omega) hfl f1
  obtain ⟨zv, z1, z2⟩ := zeroA_ok hT hr hz w
  refine ⟨if ok then .tuple #[zv, .bool false] else zv, ?_, okA'_den (z2 env)⟩
  have hfk := findKey_fit (w := w) (es := []) hfl f1 (by simp)
  simp only [findE] at hfk
  simp [execOp, ho, Instr.lookup, d1, run_underlying hu, hck, hfk, z1]

end
end Go.SX
