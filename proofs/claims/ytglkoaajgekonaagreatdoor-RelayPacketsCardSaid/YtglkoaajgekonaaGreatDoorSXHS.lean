/- SX, part HS: bytes and strings. -/
import Derived.Test.YtglkoaajgekonaaGreatDoorSXH
import Derived.Laws.BytesArg
import Derived.Lib.ConvBytes
import Derived.Maps.RangeRun
import Derived.MapKept
import Derived.Deep.AppendSrc
namespace Go.SX
noncomputable section
def intsC (c : Nat → Nat → AV) : Nat → Nat → Option (List Int)
  | _, 0 => some []
  | i, n + 1 => match c i 0 with
    | .int .u8 k => match intsC c (i + 1) n with
      | some l => some (k :: l)
      | none => none
    | _ => none
theorem intsC_ok {c : Nat → Nat → AV} : ∀ {n i : Nat} {l : List Int}, intsC c i n = some l → l.length = n ∧ ∀ j, j < n → c (i + j) 0 = .int .u8 (l.getD j 0)
  | 0, i, l, h => by simp only [intsC, Option.some.injEq] at h; subst h; exact ⟨rfl, fun j hj => by omega⟩
  | n + 1, i, l, h => by
    unfold intsC at h
    split at h
    · rename_i k hk
      split at h
      · rename_i l' hl
        cases h
        obtain ⟨h1, h2⟩ := intsC_ok hl
        refine ⟨by simp [h1], ?_⟩
        intro j hj
        cases j with
        | zero => simpa using hk
        | succ j =>
          have := h2 j (by omega)
          rw [show i + (j + 1) = i + 1 + j by omega, this]
          rfl
      · cases h
    · cases h
theorem triple_b2s {P : Program} {T : Tab} (hT : TabOK P T) {o : Oper} {fr : Fr} {n h len s d e : Nat} {x : Operand} {A : ARes} {j : Option Nat} {l : List Int}
    (ho : o.op = .convert s d x) (hx : ev fr x = some (.sl h len)) (hs : kindOf T s = .slice e) (he : kindOf T e = .int .u8) (hd : kindOf T d = .str) (hA : A.tag = some j) (hz : A.esz = 1) (hl : intsC A.cell 0 A.len = some l) :
    Triple P o fr [(h, .abs A)] [] n n (.str (strOfNums l)) [] := by
  intro env F a w next Q hn hsat hfresh hk
  have hd1 := ev_den hn (by rw [ho]; simp [Op.operands]) hx
  simp only [Den] at hd1
  obtain ⟨e1, _⟩ := hd1
  obtain ⟨v1, hv1, s1⟩ := hsat.sat (h := h) (r := .abs A) (by simp [lookC, Nat.beq_refl])
  rw [e1] at hv1; cases hv1
  have r := A.reads j hA s1
  rw [hz] at r
  obtain ⟨p, cap, hv, hle, hr⟩ := r
  obtain ⟨d1, hu1, k1⟩ := kindOf_ok hT hs (by simp)
  obtain ⟨d2, hu2, k2⟩ := kindOf_ok hT he (by simp)
  obtain ⟨d3, hu3, k3⟩ := kindOf_ok hT hd (by simp)
  simp only [KindOK] at k1 k2 k3
  subst k1; subst k2; subst k3
  obtain ⟨g1, g2⟩ := intsC_ok hl
  have hrun : (convert s d (a.eval x)).run P w = .ok (.string (strOfNums l)) w := by
    rw [hv]
    rcases hr with ⟨h0, _⟩ | ⟨b, off, arr, e', f, rfl, h4, h5, h6⟩
    · have : l = [] := List.length_eq_zero_iff.1 (by omega)
      subst this
      rw [h0]
      cases p with
      | none => simp [convert, run_underlying hu1, run_underlying hu2, run_underlying hu3, Conv.bytesToString]; rfl
      | some a0 =>
        obtain ⟨b0, o0, s0⟩ := a0
        simp [convert, run_underlying hu1, run_underlying hu2, run_underlying hu3, Conv.bytesToString, loadCells, loadCellsFrom]
        rfl
    · refine run_convert_bytes_arg w s e hu1 hu2 b off A.len cap l (by simpa using g1) ?_ d hu3
      intro i hi
      obtain ⟨y, q1, q2⟩ := h6 i 0 hi (by omega)
      have := g2 i hi
      rw [Nat.zero_add] at this
      rw [this] at q2
      have q3 := q2.2 (fun _ => none)
      simp only [Den] at q3
      rw [cell_of h5, ← q3]
      simpa using q1
  unfold Oper.wp
  rw [show (execOp a.eval o).run P w = .ok (.value (.string (strOfNums l))) w by simp [execOp, ho, hrun]]
  exact hk env F _ w (Turn.refl _ _ _ _ _) (by simp only [Den])
def intsL : List AV → Nat → Option (List Int)
  | _, 0 => some []
  | .int .u8 k :: l, n + 1 => match intsL l n with
    | some r => some (k :: r)
    | none => none
  | _, _ + 1 => none
theorem intsL_ok : ∀ {n : Nat} {cs : List AV} {l : List Int}, intsL cs n = some l → l.length = n ∧ ∀ j, j < n → cs[j]? = some (.int .u8 (l.getD j 0))
  | 0, cs, l, h => by simp only [intsL, Option.some.injEq] at h; subst h; exact ⟨rfl, fun j hj => by omega⟩
  | n + 1, cs, l, h => by
    unfold intsL at h
    split at h
    · rename_i h0; cases h0
    · rename_i k cs' n' h0
      cases h0
      split at h
      · rename_i r hr
        cases h
        obtain ⟨h1, h2⟩ := intsL_ok hr
        refine ⟨by simp [h1], ?_⟩
        intro j hj
        cases j with
        | zero => rfl
        | succ j => simpa using h2 j (by omega)
      · cases h
    · cases h
theorem triple_b2s_box {P : Program} {T : Tab} (hT : TabOK P T) {o : Oper} {fr : Fr} {n h off len cap s d e eb : Nat} {x : Operand} {cs : List AV} {l : List Int}
    (ho : o.op = .convert s d x) (hx : ev fr x = some (.slc h off len cap)) (hs : kindOf T s = .slice e) (he : kindOf T e = .int .u8) (hd : kindOf T d = .str) (hl : intsL (cs.drop off) len = some l) :
    Triple P o fr [(h, .box eb cs)] [] n n (.str (strOfNums l)) [] := by
  intro env F a w next Q hn hsat hfresh hk
  have hd1 := ev_den hn (by rw [ho]; simp [Op.operands]) hx
  simp only [Den] at hd1
  obtain ⟨b, e1, hv⟩ := hd1
  obtain ⟨v1, hv1, b1, xs, q1, q2, q3, q4⟩ := hsat.sat (h := h) (r := .box eb cs) (by simp [lookC, Nat.beq_refl])
  rw [e1] at hv1; cases hv1; cases q1
  obtain ⟨d1, hu1, k1⟩ := kindOf_ok hT hs (by simp)
  obtain ⟨d2, hu2, k2⟩ := kindOf_ok hT he (by simp)
  obtain ⟨d3, hu3, k3⟩ := kindOf_ok hT hd (by simp)
  simp only [KindOK] at k1 k2 k3
  subst k1; subst k2; subst k3
  obtain ⟨g1, g2⟩ := intsL_ok hl
  have hrun : (convert s d (a.eval x)).run P w = .ok (.string (strOfNums l)) w := by
    rw [hv]
    refine run_convert_bytes_arg w s e hu1 hu2 b off len cap l g1 ?_ d hu3
    intro i hi
    have h1 := g2 i hi
    rw [List.getElem?_drop] at h1
    obtain ⟨y, r1, r2⟩ := q4.get h1
    simp only [Den] at r2
    rw [cell_of q3, ← r2]
    simpa using r1
  unfold Oper.wp
  rw [show (execOp a.eval o).run P w = .ok (.value (.string (strOfNums l))) w by simp [execOp, ho, hrun]]
  exact hk env F _ w (Turn.refl _ _ _ _ _) (by simp only [Den])
theorem triple_b2s_nil {P : Program} {T : Tab} (hT : TabOK P T) {o : Oper} {fr : Fr} {n s d e : Nat} {x : Operand}
    (ho : o.op = .convert s d x) (hx : ev fr x = some .nils) (hs : kindOf T s = .slice e) (he : kindOf T e = .int .u8) (hd : kindOf T d = .str) :
    Triple P o fr [] [] n n (.str ByteArray.empty) [] := by
  refine triple_val fun env a w hn => ?_
  have hd1 := ev_den hn (by rw [ho]; simp [Op.operands]) hx
  simp only [Den] at hd1
  obtain ⟨d1, hu1, k1⟩ := kindOf_ok hT hs (by simp)
  obtain ⟨d2, hu2, k2⟩ := kindOf_ok hT he (by simp)
  obtain ⟨d3, hu3, k3⟩ := kindOf_ok hT hd (by simp)
  simp only [KindOK] at k1 k2 k3
  subst k1; subst k2; subst k3
  exact ⟨.string .empty, by simp [execOp, ho, hd1, convert, run_underlying hu1, run_underlying hu2, run_underlying hu3, Conv.bytesToString], by simp only [Den]⟩
def byteC (s : ByteArray) (i _c : Nat) : AV := .int .u8 (s.data.toList.getD i 0).toNat
theorem triple_s2b {P : Program} {T : Tab} (hT : TabOK P T) {o : Oper} {fr : Fr} {n s d e : Nat} {x : Operand} {b : ByteArray}
    (ho : o.op = .convert s d x) (hx : ev fr x = some (.str b)) (hs : kindOf T s = .str) (hd : kindOf T d = .slice e) (he : kindOf T e = .int .u8) :
    Triple P o fr [] [] n (n + 1) (.sl n b.size) [(n, .abs (lst none b.size 1 (byteC b)))] := by
  intro env F a w next Q hn hsat hfresh hk
  have hn' := hfresh n (Nat.le_refl _) (by omega)
  have hd1 := ev_den hn (by rw [ho]; simp [Op.operands]) hx
  simp only [Den] at hd1
  obtain ⟨d1, hu1, k1⟩ := kindOf_ok hT hs (by simp)
  obtain ⟨d2, hu2, k2⟩ := kindOf_ok hT he (by simp)
  obtain ⟨d3, hu3, k3⟩ := kindOf_ok hT hd (by simp)
  simp only [KindOK] at k1 k2 k3
  subst k1; subst k2; subst k3
  have hrun := Lib.run_convert_string_bytes (P := P) w s d e b hu1 hu3 hu2
  unfold Oper.wp
  rw [show (execOp a.eval o).run P w = .ok (.value (.slice (some ⟨w.heap.size, 0, none⟩) b.size (grownCap w b.size 0 e))) (Lib.bytesWorld w e b) by simp [execOp, ho, hd1, hrun]]
  have hcap : b.size ≤ grownCap w b.size 0 e := by
    exact grownCap_ge _ _ _ _
  refine hk (env.set n (.slice (some ⟨w.heap.size, 0, none⟩) b.size (grownCap w b.size 0 e))) (fun _ k => k = w.heap.size) _ _ ⟨Env.le_set hn', ?_, ⟨?_, ?_⟩, ?_, ?_⟩ ?_
  · intro k hk; unfold Env.set; rw [if_neg (by omega)]
  · intro k r hl
    obtain ⟨rfl, rfl⟩ := look_one hl
    refine ⟨_, Env.set_same _ _ _, ?_⟩
    show ReadsAs _ _ _ _ _ _
    refine ⟨_, _, rfl, hcap, .inr ⟨w.heap.size, 0, _, _, _, rfl, fun _ => Iff.rfl, Lib.bytesWorld_at_new w e b, ?_⟩⟩
    intro i c hi hc
    have hc0 : c = 0 := by omega
    subst hc0
    refine ⟨.int .u8 (b.data.toList.getD i 0).toNat, ?_, rfl, fun env2 => by simp only [byteC, Den]⟩
    have := Lib.bytesWorld_cell w e b i hi
    rw [cell_of (Lib.bytesWorld_at_new w e b)] at this
    simpa using this
  · intro k r k' r' hl hl' hne
    obtain ⟨rfl, rfl⟩ := look_one hl
    obtain ⟨rfl, rfl⟩ := look_one hl'
    exact absurd rfl hne
  · intro k r b0 hl hb
    exact .inr (.inr (Nat.le_of_eq hb.symm))
  · refine ⟨rfl, rfl, rfl, by rw [Lib.bytesWorld_size]; omega, ?_⟩
    intro k hk _
    exact Lib.bytesWorld_at_old w e b k hk
  · simp only [Den]
    exact ⟨Env.set_same _ _ _, _, _, rfl, fun _ => ⟨_, _, rfl⟩⟩
end
end Go.SX
namespace Go.SX
noncomputable section
theorem Turn.newR {n : Nat} {R : Heap} {env : Env} {F : Foot} {w : World} {o : Obj} {r : Res} {v : Value} (hn : env n = none)
    (hs : r.sat (env.set n v) v (fun b => b = w.heap.size) (w.alloc o)) : Turn n (n + 1) R [] [(n, r)] env F w (env.set n v) (fun _ b => b = w.heap.size) (w.alloc o) := by
  refine ⟨Env.le_set hn, ?_, ⟨?_, ?_⟩, ?_, frame_alloc⟩
  · intro h hh; unfold Env.set; rw [if_neg (by omega)]
  · intro h r' hl
    obtain ⟨rfl, rfl⟩ := look_one hl
    exact ⟨_, Env.set_same _ _ _, hs⟩
  · intro h r1 h' r2 hl hl' hne
    obtain ⟨rfl, rfl⟩ := look_one hl
    obtain ⟨rfl, rfl⟩ := look_one hl'
    exact absurd rfl hne
  · intro h r' b hl hb
    exact .inr (.inr (Nat.le_of_eq hb.symm))
theorem alloc_at (w : World) (o : Obj) : (w.alloc o).heap[w.heap.size]? = some o := by
  show (w.heap.push o)[w.heap.size]? = _
  simp
theorem triple_makeMap {P : Program} {o : Oper} {fr : Fr} {n t : Nat} (ho : o.op = .makeMap t none) : Triple P o fr [] [] n (n + 1) (.hd n) [(n, .map [])] := by
  intro env F a w next Q hneed hsat hfresh hk
  have hn' := hfresh n (Nat.le_refl _) (by omega)
  unfold Oper.wp
  rw [show (execOp a.eval o).run P w = .ok (.value (.map (some w.heap.size))) (w.alloc (.map #[] 0)) by simp [execOp, ho, Instr.makeMap]]
  refine hk _ _ _ _ (Turn.newR (r := .map []) (v := .map (some w.heap.size)) hn' ?_) ?_
  · exact ⟨_, #[], 0, rfl, fun _ => Iff.rfl, alloc_at _ _, rfl, ⟨by simp, by simp⟩⟩
  · simp only [Den]
    exact ⟨Env.set_same _ _ _, trivial⟩
def keyL : AV → List AV
  | .agg m => m
  | u => [u]
def findA (k : List AV) : List (AV × AV) → Option (Nat × AV)
  | [] => none
  | (k', v) :: l => match eqAs k (keyL k') with
    | true => some (0, v)
    | false => match findA k l with
      | some (i, u) => some (i + 1, u)
      | none => none
def keyFit (T : Tab) (k : Nat) (fl : List LK) (v : AV) : Bool :=
  match kindOf T k, v with
  | .struct _ _ _, .agg l => fitAs fl l
  | .int j, .int i _ => IntKind.same j i
  | .str, .str _ => true
  | .bool, .bool _ => true
  | _, _ => false
theorem keyFit_ok {P : Program} {T : Tab} (hT : TabOK P T) {k : Nat} {fl : List LK} {v : AV} {env : Env} {x : Value} (hfl : flatT P 100 k = some fl) (h : keyFit T k fl v = true) (hd : Den env v x) :
    FitT P k fl x ∧ Dens env (keyL v) x.cells.toList ∧ fitAs fl (keyL v) = true := by
  unfold keyFit at h
  split at h
  · rename_i fs fl' l hk
    obtain ⟨d, h1, h2⟩ := kindOf_ok hT hk (by simp)
    simp only [KindOK] at h2
    obtain ⟨fields, rfl, _⟩ := h2
    simp only [Den] at hd
    obtain ⟨xs, rfl, hds⟩ := hd
    exact ⟨.inr ⟨xs, fields, rfl, h1, fitAs_ok h hds⟩, by simpa [keyL, Value.cells] using hds, h⟩
  · rename_i j i n hk
    obtain ⟨d, h1, h2⟩ := kindOf_ok hT hk (by simp)
    simp only [KindOK] at h2; subst h2
    have hji := IntKind.same_eq h
    subst hji
    have : fl = [.int j] := by
      unfold flatT at hfl; rw [h1] at hfl; simpa using hfl.symm
    subst this
    simp only [Den] at hd; subst hd
    refine ⟨.inl ⟨.int j, rfl, ⟨n, rfl⟩, _, h1, rfl⟩, ?_, ?_⟩
    · simp [keyL, Value.cells, Dens, Den]
    · simp [keyL, fitAs, fitA, h]
  · rename_i s0 hk
    obtain ⟨d, h1, h2⟩ := kindOf_ok hT hk (by simp)
    simp only [KindOK] at h2; subst h2
    have : fl = [.str] := by
      unfold flatT at hfl; rw [h1] at hfl; simpa using hfl.symm
    subst this
    simp only [Den] at hd; subst hd
    exact ⟨.inl ⟨.str, rfl, ⟨s0, rfl⟩, _, h1, rfl⟩, by simp [keyL, Value.cells, Dens, Den], rfl⟩
  · rename_i b hk
    obtain ⟨d, h1, h2⟩ := kindOf_ok hT hk (by simp)
    simp only [KindOK] at h2; subst h2
    have : fl = [.bool] := by
      unfold flatT at hfl; rw [h1] at hfl; simpa using hfl.symm
    subst this
    simp only [Den] at hd; subst hd
    exact ⟨.inl ⟨.bool, rfl, ⟨b, rfl⟩, _, h1, rfl⟩, by simp [keyL, Value.cells, Dens, Den], rfl⟩
  · cases h
def allFit (T : Tab) (k : Nat) (fl : List LK) (L : List (AV × AV)) : Bool := L.all fun p => keyFit T k fl p.1
theorem allFit_ok {P : Program} {T : Tab} (hT : TabOK P T) {k : Nat} {fl : List LK} {env : Env} (hfl : flatT P 100 k = some fl) : ∀ {L : List (AV × AV)} {es : List MapEntry}, allFit T k fl L = true → DenM env L es → ∀ e ∈ es, FitT P k fl e.key
  | [], es, _, hd, e, he => by simp only [DenM] at hd; subst hd; cases he
  | (k', v) :: L, es, h, hd, e, he => by
    simp only [allFit, List.all_cons, Bool.and_eq_true] at h
    simp only [DenM] at hd
    obtain ⟨e1, t, rfl, h1, h2, h3⟩ := hd
    rcases List.mem_cons.1 he with rfl | he
    · exact (keyFit_ok hT hfl h.1 h1).1
    · exact allFit_ok hT hfl h.2 h3 e he
theorem find_ok {P : Program} {T : Tab} (hT : TabOK P T) {k : Nat} {fl : List LK} {env : Env} {kv : AV} {x : Value} (hfl : flatT P 100 k = some fl) (hk : keyFit T k fl kv = true) (hx : Den env kv x) :
    ∀ {L : List (AV × AV)} {es : List MapEntry} (i : Nat), allFit T k fl L = true → DenM env L es →
      match findA (keyL kv) L with
      | none => findE x.cells.toList es i = none
      | some (j, u) => ∃ y, findE x.cells.toList es i = some (i + j, y) ∧ Den env u y ∧ j < es.length
  | [], es, i, _, hd => by simp only [DenM] at hd; subst hd; rfl
  | (k', v) :: L, es, i, h, hd => by
    simp only [allFit, List.all_cons, Bool.and_eq_true] at h
    simp only [DenM] at hd
    obtain ⟨e1, t, rfl, h1, h2, h3⟩ := hd
    obtain ⟨_, a1, a2⟩ := keyFit_ok hT hfl hk hx
    obtain ⟨_, b1, b2⟩ := keyFit_ok hT hfl h.1 h1
    have heq := eqAs_ok a2 b2 a1 b1
    unfold findA findE
    rw [heq]
    cases hq : eqAs (keyL kv) (keyL k') with
    | true => exact ⟨e1.val, rfl, h2, by simp⟩
    | false =>
      simp only
      have ih := find_ok hT hfl hk hx (L := L) (es := t) (i + 1) h.2 h3
      cases hf : findA (keyL kv) L with
      | none => rw [hf] at ih; exact ih
      | some p =>
        obtain ⟨j, u⟩ := p
        rw [hf] at ih
        obtain ⟨y, g1, g2, g3⟩ := ih
        exact ⟨y, by rw [g1]; congr 2; omega, g2, by simp; omega⟩
def zeroA (r : TRow) : Option AV :=
  match r.agg, r.zero with
  | true, z => some (.agg z)
  | false, [z] => some z
  | _, _ => none
theorem zeroA_ok {P : Program} {T : Tab} (hT : TabOK P T) {t : Nat} {r : TRow} {z : AV} (hr : T t = some r) (hz : zeroA r = some z) (w : World) : ∃ zv, (zeroValue t).run P w = .ok zv w ∧ ∀ env, Den env z zv := by
  obtain ⟨_, ⟨zv, h2, h3⟩, _⟩ := row_info hT hr w
  refine ⟨zv, h2, fun env => ?_⟩
  unfold zeroA at hz
  split at hz
  · rename_i hag; cases hz; exact zero_agg ⟨(h3 env).1, by rw [(h3 env).2, hag]⟩
  · rename_i z1 hag hzz; cases hz; exact zero_one ⟨by rw [← hzz]; exact (h3 env).1, by rw [(h3 env).2, hag]⟩
  · cases hz
def okA' (ok : Bool) (v : AV) (b : Bool) : AV := match ok with | true => .tup [v, .bool b] | false => v
theorem okA'_den {env : Env} {ok b : Bool} {v : AV} {x : Value} (h : Den env v x) : Den env (okA' ok v b) (if ok then .tuple #[x, .bool b] else x) := by
  cases ok with
  | true => simp only [okA', if_true, Den]; exact ⟨_, rfl, by simp [Dens, Den, h]⟩
  | false => simpa [okA'] using h
theorem run_getObj_at {P : Program} {w : World} {r : Nat} {es : Array MapEntry} {clock : Nat} (hb : w.heap[r]? = some (.map es clock)) : (getObj r).run P w = .ok (.map es clock) w := MapKept.run_getObj_map hb
theorem triple_lookup {P : Program} {T : Tab} (hT : TabOK P T) {o : Oper} {fr : Fr} {n h t kt et : Nat} {fl : List LK} {x k : Operand} {ok : Bool} {kv z : AV} {L : List (AV × AV)} {r : TRow}
    (ho : o.op = .lookup t x k ok) (hm : kindOf T t = .map kt et fl) (hx : ev fr x = some (.hd h)) (hk : ev fr k = some kv) (hkf : keyFit T kt fl kv = true) (hL : allFit T kt fl L = true) (hr : T et = some r) (hz : zeroA r = some z) :
    Triple P o fr [(h, .map L)] [] n n (match findA (keyL kv) L with | some (_, u) => okA' ok u true | none => okA' ok z false) [] := by
  intro env F a w next Q hneed hsat hfresh hkk
  have d1 := ev_den hneed (by rw [ho]; simp [Op.operands]) hx
  have d2 := ev_den hneed (by rw [ho]; simp [Op.operands]) hk
  simp only [Den] at d1
  obtain ⟨e1, _⟩ := d1
  obtain ⟨v1, hv1, b, xs, clock, q1, q2, q3, q4, q5⟩ := hsat.sat (h := h) (r := .map L) (by simp [lookC, Nat.beq_refl])
  rw [e1] at hv1; cases hv1
  obtain ⟨d, hu, hd⟩ := kindOf_ok hT hm (by simp)
  obtain ⟨rfl, hfl⟩ := hd
  obtain ⟨f1, f2, f3⟩ := keyFit_ok hT hfl hkf d2
  have hes := allFit_ok hT hfl hL q4
  have hck := checkKey_fit (w := w) (D := 10000) (em := xs.isEmpty) (by omega) hfl f1
  have hfk := findKey_fit (w := w) hfl f1 hes
  obtain ⟨zv, z1, z2⟩ := zeroA_ok hT hr hz w
  have hfind := find_ok hT hfl hkf d2 0 hL q4
  unfold Oper.wp
  cases hq : findA (keyL kv) L with
  | none =>
    rw [hq] at hfind
    rw [hfind] at hfk
    have hrun : (execOp a.eval o).run P w = .ok (.value (if ok then .tuple #[zv, .bool false] else zv)) w := by
      simp only [execOp, ho, Instr.lookup, q1, Sem.run_bind, run_underlying hu, Result.andThen_ok, run_getObj_at q3, hck, hfk, z1, Sem.run_pure]
    rw [hrun]
    exact hkk env F _ w (Turn.refl _ _ _ _ _) (by rw [hq]; exact okA'_den (z2 env))
  | some p =>
    obtain ⟨j, u⟩ := p
    rw [hq] at hfind
    obtain ⟨y, g1, g2, g3⟩ := hfind
    rw [g1] at hfk
    have hrun : (execOp a.eval o).run P w = .ok (.value (if ok then .tuple #[y, .bool true] else y)) w := by
      simp only [execOp, ho, Instr.lookup, q1, Sem.run_bind, run_underlying hu, Result.andThen_ok, run_getObj_at q3, hck, hfk, Sem.run_pure]
    rw [hrun]
    exact hkk env F _ w (Turn.refl _ _ _ _ _) (by rw [hq]; exact okA'_den g2)
theorem Turn.put {n h b : Nat} {R : Heap} {env : Env} {F : Foot} {w : World} {ob : Obj} {r r' : Res} {v : Value} (hF : ∀ k, F h k ↔ k = b) (hb : b < w.heap.size) (hv : env h = some v) (hex : r.excl = true)
    (hs : r'.sat env v (fun k => k = b) { w with heap := w.heap.setIfInBounds b ob }) : Turn n n R [(h, r)] [(h, r')] env F w env (fun _ k => k = b) { w with heap := w.heap.setIfInBounds b ob } := by
  have _ := hb
  refine ⟨Env.le.refl _, fun _ _ => rfl, ⟨?_, ?_⟩, ?_, ⟨rfl, rfl, rfl, by simp, ?_⟩⟩
  · intro h' r1 hl
    obtain ⟨rfl, rfl⟩ := look_one hl
    exact ⟨v, hv, hs⟩
  · intro h1 r1 h2 r2 hl hl' hne
    obtain ⟨rfl, rfl⟩ := look_one hl
    obtain ⟨rfl, rfl⟩ := look_one hl'
    exact absurd rfl hne
  · intro h' r1 k hl hk
    obtain ⟨rfl, rfl⟩ := look_one hl
    exact .inl ⟨h', r, by simp [lookC, Nat.beq_refl], (hF k).2 hk, fun _ => hex⟩
  · intro k _ hk
    have hne : b ≠ k := by
      rintro rfl
      exact hk ⟨h, r, by simp [lookC, Nat.beq_refl], hex, (hF b).2 rfl⟩
    show (w.heap.setIfInBounds b ob)[k]? = _
    rw [Array.getElem?_setIfInBounds_ne hne]
theorem put_at {w : World} {b : Nat} {o ob : Obj} (hb : w.heap[b]? = some o) : ({ w with heap := w.heap.setIfInBounds b ob } : World).heap[b]? = some ob := by
  have := getElem?_lt hb
  show (w.heap.setIfInBounds b ob)[b]? = _
  simp [this]
theorem eqC_eq {k : LK} {x y : Value} (h1 : k.fits x) (h2 : k.fits y) (h : eqC x y = true) : x = y := by
  cases k <;> obtain ⟨a, rfl⟩ := h1 <;> obtain ⟨b, rfl⟩ := h2 <;> simp [eqC] at h <;> rw [h]
theorem eqCs_eq : ∀ {ks : List LK} {xs ys : List Value}, LKs ks xs → LKs ks ys → eqCs xs ys = true → xs = ys
  | [], _, _, h1, h2, _ => by simp only [LKs] at h1 h2; rw [h1, h2]
  | k :: ks, _, _, ⟨x, t, e1, f1, g1⟩, ⟨y, t', e2, f2, g2⟩, h => by
    subst e1; subst e2
    simp only [eqCs, Bool.and_eq_true] at h
    rw [eqC_eq f1 f2 h.1, eqCs_eq g1 g2 h.2]
theorem fit_eq {P : Program} {t : TypeId} {ks : List LK} {x y : Value} (h1 : FitT P t ks x) (h2 : FitT P t ks y) (h : eqCs x.cells.toList y.cells.toList = true) : x = y := by
  have one : ∀ {k : LK} {z : Value}, k.fits z → z.cells.toList = [z] := by
    intro k z hz
    cases k <;> obtain ⟨a, rfl⟩ := hz <;> simp [Value.cells]
  rcases h1 with ⟨k, rfl, f1, d, u1, hk⟩ | ⟨xs, fs, rfl, u1, l1⟩ <;> rcases h2 with ⟨k', e, f2, d', u2, hk'⟩ | ⟨ys, fs', rfl, u2, l2⟩
  · cases e
    rw [one f1, one f2] at h
    simp only [eqCs, Bool.and_true] at h
    exact eqC_eq f1 f2 h
  · rw [u1] at u2; cases u2; cases k <;> simp only at hk <;> cases hk
  · rw [u1] at u2; cases u2; cases k' <;> simp only at hk' <;> cases hk'
  · simp only [Value.cells] at h
    have := eqCs_eq l1 l2 h
    rw [Array.toList_inj.1 this]
theorem sameBits_self {P : Program} {t : TypeId} {ks : List LK} {x : Value} (h : FitT P t ks x) : Instr.sameBits 10000 x x = true := by
  have one : ∀ {k : LK} {z : Value} (n : Nat), k.fits z → Instr.sameBits n z z = true := by
    intro k z n hz
    cases k <;> obtain ⟨a, rfl⟩ := hz <;> cases n <;> simp [Instr.sameBits, beq_toListBytes]
  rcases h with ⟨k, rfl, f1, _⟩ | ⟨xs, fs, rfl, u1, l1⟩
  · exact one _ f1
  · unfold Instr.sameBits
    simp only [beq_self_eq_true, Bool.true_and]
    have key : ∀ {l : List Value} {ks : List LK}, LKs ks l → ((l.zip l).all fun (p : Value × Value) => Instr.sameBits 9999 p.1 p.2) = true := by
      intro l
      induction l with
      | nil => intro ks _; rfl
      | cons v l ih =>
        intro ks hl
        cases ks with
        | nil => simp [LKs] at hl
        | cons k ks =>
          obtain ⟨v', t', e, f, g⟩ := hl
          cases e
          simp only [List.zip_cons_cons, List.all_cons, Bool.and_eq_true]
          exact ⟨one _ f, ih g⟩
    exact key l1
theorem findE_at {xs : List Value} : ∀ {es : List MapEntry} {i j : Nat} {y : Value}, findE xs es i = some (j, y) → i ≤ j ∧ ∃ e, es[j - i]? = some e ∧ e.val = y ∧ eqCs xs e.key.cells.toList = true
  | [], _, _, _, h => by simp [findE] at h
  | e :: es, i, j, y, h => by
    unfold findE at h
    split at h
    · rename_i hq
      simp only [Option.some.injEq, Prod.mk.injEq] at h
      obtain ⟨rfl, rfl⟩ := h
      exact ⟨Nat.le_refl _, e, by simp, rfl, hq⟩
    · obtain ⟨h1, e', h2, h3, h4⟩ := findE_at h
      refine ⟨by omega, e', ?_, h3, h4⟩
      rw [show j - i = (j - (i + 1)) + 1 by omega]
      simpa using h2
theorem denM_set {env : Env} {kv v : AV} {f : MapEntry → MapEntry} : ∀ {L : List (AV × AV)} {es : List MapEntry} {j : Nat}, DenM env L es → (∀ e, es[j]? = some e → Den env kv (f e).key ∧ Den env v (f e).val) → j < es.length →
    DenM env (L.set j (kv, v)) (es.modify j f)
  | [], es, j, hd, _, hj => by simp only [DenM] at hd; subst hd; simp at hj
  | (k', v') :: L, es, j, hd, hf, hj => by
    simp only [DenM] at hd
    obtain ⟨e1, t, rfl, h1, h2, h3⟩ := hd
    cases j with
    | zero =>
      obtain ⟨g1, g2⟩ := hf e1 rfl
      exact ⟨f e1, t, by simp, g1, g2, h3⟩
    | succ j =>
      exact ⟨e1, t.modify j f, by simp, h1, h2, denM_set h3 (fun e he => hf e (by simpa using he)) (by simpa using hj)⟩
theorem denM_append {env : Env} : ∀ {L M : List (AV × AV)} {es fs : List MapEntry}, DenM env L es → DenM env M fs → DenM env (L ++ M) (es ++ fs)
  | [], M, es, fs, h, k => by simp only [DenM] at h; subst h; simpa using k
  | (k', v') :: L, M, es, fs, h, k => by
    simp only [DenM] at h
    obtain ⟨e1, t, rfl, h1, h2, h3⟩ := h
    exact ⟨e1, t ++ fs, rfl, h1, h2, denM_append h3 k⟩
theorem born_modify {f : MapEntry → MapEntry} (hf : ∀ e, (f e).born = e.born) : ∀ (l : List MapEntry) (j : Nat), (l.modify j f).map (·.born) = l.map (·.born)
  | [], j => by simp
  | e :: l, 0 => by simp [hf]
  | e :: l, j + 1 => by simp [born_modify hf l j]
theorem Born.of_map {l m : List MapEntry} {c : Nat} (h : Born l c) (e : m.map (·.born) = l.map (·.born)) : Born m c := by
  constructor
  · intro x hx
    have : x.born ∈ m.map (·.born) := List.mem_map.2 ⟨x, hx, rfl⟩
    rw [e, List.mem_map] at this
    obtain ⟨y, hy, hyx⟩ := this
    rw [← hyx]; exact h.lt y hy
  · have h1 : (l.map (·.born)).Pairwise (· ≠ ·) := List.pairwise_map.2 h.ne
    rw [← e] at h1
    exact List.pairwise_map.1 h1
theorem Born.push {l : List MapEntry} {c : Nat} {e : MapEntry} (h : Born l c) (he : e.born = c) : Born (l ++ [e]) (c + 1) := by
  constructor
  · intro x hx
    rcases List.mem_append.1 hx with hx | hx
    · have := h.lt x hx; omega
    · simp at hx; subst hx; omega
  · rw [List.pairwise_append]
    refine ⟨h.ne, by simp, ?_⟩
    intro x hx y hy
    simp at hy; subst hy
    have := h.lt x hx; omega
def updA (L : List (AV × AV)) (kv v : AV) : List (AV × AV) :=
  match findA (keyL kv) L with
  | some (j, _) => L.set j (kv, v)
  | none => L ++ [(kv, v)]
theorem triple_update {P : Program} {T : Tab} (hT : TabOK P T) {o : Oper} {fr : Fr} {n h t kt et : Nat} {fl : List LK} {x k y : Operand} {kv v : AV} {L : List (AV × AV)}
    (ho : o.op = .mapUpdate t x k y) (hm : kindOf T t = .map kt et fl) (hx : ev fr x = some (.hd h)) (hk : ev fr k = some kv) (hy : ev fr y = some v) (hkf : keyFit T kt fl kv = true) (hL : allFit T kt fl L = true) :
    Triple P o fr [] [(h, .map L)] n n (.raw undef) [(h, .map (updA L kv v))] := by
  intro env F a w next Q hneed hsat hfresh hkk
  have d1 := ev_den hneed (by rw [ho]; simp [Op.operands]) hx
  have d2 := ev_den hneed (by rw [ho]; simp [Op.operands]) hk
  have d3 := ev_den hneed (by rw [ho]; simp [Op.operands]) hy
  simp only [Den] at d1
  obtain ⟨e1, _⟩ := d1
  obtain ⟨v1, hv1, b, xs, clock, q1, q2, q3, q4, q5⟩ := hsat.sat (h := h) (r := .map L) (by simp [lookC, Nat.beq_refl])
  rw [e1] at hv1; cases hv1
  obtain ⟨d, hu, hd⟩ := kindOf_ok hT hm (by simp)
  obtain ⟨rfl, hfl⟩ := hd
  obtain ⟨f1, f2, f3⟩ := keyFit_ok hT hfl hkf d2
  have hes := allFit_ok hT hfl hL q4
  have hck := checkKey_fit (w := w) (D := 10000) (em := false) (by omega) hfl f1
  have hfk := findKey_fit (w := w) hfl f1 hes
  have hfind := find_ok hT hfl hkf d2 0 hL q4
  have hset : ∀ ob, (setObj b ob).run P w = .ok () { w with heap := w.heap.setIfInBounds b ob } := fun ob => MapKept.run_setObj_map ob q3
  unfold Oper.wp
  unfold updA at hkk
  cases hq : findA (keyL kv) L with
  | none =>
    rw [hq] at hfind hkk
    rw [hfind] at hfk
    have hrun : (execOp a.eval o).run P w = .ok .skip { w with heap := w.heap.setIfInBounds b (.map (xs.push { key := a.eval k, val := a.eval y, born := clock }) (clock + 1)) } := by
      simp only [execOp, ho, Instr.mapUpdate, q1, Sem.run_bind, run_underlying hu, Result.andThen_ok, run_getObj_at q3, hck, hfk, hset, Sem.run_pure]
    rw [hrun]
    refine hkk env _ undef _ (Turn.put q2 (getElem?_lt q3) (by rw [e1, q1]) rfl ⟨b, _, _, rfl, fun _ => Iff.rfl, put_at q3, ?_, ?_⟩) (by simp only [Den])
    · rw [Array.toList_push]; exact denM_append q4 ⟨_, [], rfl, d2, d3, rfl⟩
    · rw [Array.toList_push]; exact q5.push rfl
  | some p =>
    obtain ⟨j, u⟩ := p
    rw [hq] at hfind hkk
    obtain ⟨z, g1, g2, g3⟩ := hfind
    rw [Nat.zero_add] at g1
    rw [g1] at hfk
    obtain ⟨_, e, r1, r2, r3⟩ := findE_at g1
    rw [Nat.sub_zero] at r1
    have hje : xs[j]? = some e := by simpa using r1
    have hkey : a.eval k = e.key := fit_eq f1 (hes e (List.mem_of_getElem? r1)) r3
    have hsame : (Instr.keyThatStays e.key (a.eval k)).run P w = .ok (a.eval k) w := by
      unfold Instr.keyThatStays
      rw [← hkey, sameBits_self f1]
      rfl
    have hrun : (execOp a.eval o).run P w = .ok .skip { w with heap := w.heap.setIfInBounds b (.map (xs.modify j fun e => { e with key := a.eval k, val := a.eval y }) clock) } := by
      simp only [execOp, ho, Instr.mapUpdate, q1, Sem.run_bind, run_underlying hu, Result.andThen_ok, run_getObj_at q3, hck, hfk, hje, Option.map_some, Option.getD_some, hsame, hset, Sem.run_pure]
    rw [hrun]
    refine hkk env _ undef _ (Turn.put q2 (getElem?_lt q3) (by rw [e1, q1]) rfl ⟨b, _, _, rfl, fun _ => Iff.rfl, put_at q3, ?_, ?_⟩) (by simp only [Den])
    · rw [Array.toList_modify]; exact denM_set q4 (fun e _ => ⟨d2, d3⟩) g3
    · rw [Array.toList_modify]; exact q5.of_map (born_modify (f := fun e => { e with key := a.eval k, val := a.eval y }) (fun _ => rfl) _ _)
theorem denM_erase {env : Env} : ∀ {L : List (AV × AV)} {es : List MapEntry} {j : Nat}, DenM env L es → DenM env (L.eraseIdx j) (es.eraseIdx j)
  | [], es, j, hd => by simp only [DenM] at hd; subst hd; simp [DenM]
  | (k', v') :: L, es, j, hd => by
    simp only [DenM] at hd
    obtain ⟨e1, t, rfl, h1, h2, h3⟩ := hd
    cases j with
    | zero => simpa using h3
    | succ j => exact ⟨e1, t.eraseIdx j, by simp, h1, h2, denM_erase h3⟩
theorem Born.erase {l : List MapEntry} {c j : Nat} (h : Born l c) : Born (l.eraseIdx j) c :=
  ⟨fun e he => h.lt e ((List.eraseIdx_sublist l j).subset he), h.ne.sublist (List.eraseIdx_sublist l j)⟩
def delA (L : List (AV × AV)) (kv : AV) : List (AV × AV) :=
  match findA (keyL kv) L with
  | some (j, _) => L.eraseIdx j
  | none => L
theorem triple_delete {P : Program} {T : Tab} (hT : TabOK P T) {o : Oper} {fr : Fr} {n h t t2 kt et : Nat} {fl : List LK} {x k : Operand} {kv : AV} {L : List (AV × AV)}
    (ho : o.op = .call { callee := .builtin .delete, args := #[x, k], argTypes := #[t, t2] }) (hm : kindOf T t = .map kt et fl) (hx : ev fr x = some (.hd h)) (hk : ev fr k = some kv) (hkf : keyFit T kt fl kv = true) (hL : allFit T kt fl L = true) :
    Triple P o fr [] [(h, .map L)] n n (.tup []) [(h, .map (delA L kv))] := by
  intro env F a w next Q hneed hsat hfresh hkk
  have d1 := ev_den hneed (by rw [ho]; simp [Op.operands, Call.operands]) hx
  have d2 := ev_den hneed (by rw [ho]; simp [Op.operands, Call.operands]) hk
  simp only [Den] at d1
  obtain ⟨e1, _⟩ := d1
  obtain ⟨v1, hv1, b, xs, clock, q1, q2, q3, q4, q5⟩ := hsat.sat (h := h) (r := .map L) (by simp [lookC, Nat.beq_refl])
  rw [e1] at hv1; cases hv1
  obtain ⟨d, hu, hd⟩ := kindOf_ok hT hm (by simp)
  obtain ⟨rfl, hfl⟩ := hd
  obtain ⟨f1, f2, f3⟩ := keyFit_ok hT hfl hkf d2
  have hes := allFit_ok hT hfl hL q4
  have hck := checkKey_fit (w := w) (D := 10000) (em := xs.isEmpty) (by omega) hfl f1
  have hfk := findKey_fit (w := w) hfl f1 hes
  have hfind := find_ok hT hfl hkf d2 0 hL q4
  have hset : ∀ ob, (setObj b ob).run P w = .ok () { w with heap := w.heap.setIfInBounds b ob } := fun ob => MapKept.run_setObj_map ob q3
  unfold Oper.wp
  unfold delA at hkk
  cases hq : findA (keyL kv) L with
  | none =>
    rw [hq] at hfind hkk
    rw [hfind] at hfk
    have hrun : (execOp a.eval o).run P w = .ok (.value (.tuple #[])) { w with heap := w.heap.setIfInBounds b (.map xs clock) } := by
      simp [execOp, ho, resolve, invoke, builtin, Builtin.delete_, q1, run_underlying hu, run_getObj_at q3, hck, hfk, hset]
    rw [hrun]
    exact hkk env _ _ _ (Turn.put q2 (getElem?_lt q3) (by rw [e1, q1]) rfl ⟨b, _, _, rfl, fun _ => Iff.rfl, put_at q3, q4, q5⟩) (by simp only [Den]; exact ⟨_, rfl, by simp [Dens]⟩)
  | some p =>
    obtain ⟨j, u⟩ := p
    rw [hq] at hfind hkk
    obtain ⟨z, g1, g2, g3⟩ := hfind
    rw [Nat.zero_add] at g1
    rw [g1] at hfk
    have hrun : (execOp a.eval o).run P w = .ok (.value (.tuple #[])) { w with heap := w.heap.setIfInBounds b (.map (xs.eraseIdxIfInBounds j) clock) } := by
      simp [execOp, ho, resolve, invoke, builtin, Builtin.delete_, q1, run_underlying hu, run_getObj_at q3, hck, hfk, hset]
    rw [hrun]
    have hto : (xs.eraseIdxIfInBounds j).toList = xs.toList.eraseIdx j := by simp
    exact hkk env _ _ _ (Turn.put q2 (getElem?_lt q3) (by rw [e1, q1]) rfl ⟨b, _, _, rfl, fun _ => Iff.rfl, put_at q3, by rw [hto]; exact denM_erase q4, by rw [hto]; exact q5.erase⟩) (by simp only [Den]; exact ⟨_, rfl, by simp [Dens]⟩)
theorem filter_none {l : List MapEntry} : (l.filter fun e => !(#[] : Array Nat).contains e.born) = l := by simp
theorem triple_range {P : Program} {T : Tab} (hT : TabOK P T) {o : Oper} {fr : Fr} {n h t kt et : Nat} {fl : List LK} {x : Operand} {L : List (AV × AV)}
    (ho : o.op = .range t x) (hm : kindOf T t = .map kt et fl) (hx : ev fr x = some (.hd h)) : Triple P o fr [] [(h, .map L)] n (n + 1) (.ptr n 0) [(h, .rmap L L [] n), (n, .iter h)] := by
  intro env F a w next Q hneed hsat hfresh hkk
  have hn' := hfresh n (Nat.le_refl _) (by omega)
  have d1 := ev_den hneed (by rw [ho]; simp [Op.operands]) hx
  simp only [Den] at d1
  obtain ⟨e1, _⟩ := d1
  obtain ⟨v1, hv1, b, xs, clock, q1, q2, q3, q4, q5⟩ := hsat.sat (h := h) (r := .map L) (by simp [lookC, Nat.beq_refl])
  rw [e1] at hv1; cases hv1
  obtain ⟨d, hu, hd⟩ := kindOf_ok hT hm (by simp)
  obtain ⟨rfl, hfl⟩ := hd
  have hne : h ≠ n := by rintro rfl; rw [e1] at hn'; cases hn'
  have hb := getElem?_lt q3
  unfold Oper.wp
  rw [show (execOp a.eval o).run P w = .ok (.value (.pointer (some ⟨w.heap.size, 0, none⟩))) (w.alloc (.mapIter (some b) clock #[] clock)) by
    simp [execOp, ho, Instr.range, q1, run_underlying hu, run_getObj_at q3]]
  have hle := Env.le_set (v := .pointer (some ⟨w.heap.size, 0, none⟩)) hn'
  have hold : (w.alloc (.mapIter (some b) clock #[] clock)).heap[b]? = some (.map xs clock) := by
    show (w.heap.push _)[b]? = _
    rw [Array.getElem?_push_lt hb, ← q3, Array.getElem?_eq_getElem hb]
  refine hkk (env.set n (.pointer (some ⟨w.heap.size, 0, none⟩))) (fun k c => k = h ∧ (c = b ∨ c = w.heap.size)) _ _ ⟨hle, ?_, ⟨?_, ?_⟩, ?_, frame_alloc⟩ ?_
  · intro k hk; unfold Env.set; rw [if_neg (by omega)]
  · intro k r hl
    rw [look_cons] at hl
    split at hl
    · rename_i e; subst e; cases hl
      refine ⟨_, hle _ _ e1, b, w.heap.size, xs, clock, clock, #[], q1, by omega, Env.set_same _ _ _, fun c => by simp, hold, alloc_at _ _, q4.mono hle, q5, ⟨Nat.le_refl _, fun e he => q5.lt e he⟩, ?_, ?_⟩
      · rw [filter_none]; exact q4.mono hle
      · rfl
    · obtain ⟨rfl, rfl⟩ := look_one hl
      refine ⟨_, Env.set_same _ _ _, ?_⟩
      rintro c ⟨e, _⟩; exact hne e.symm
  · intro k r k' r' hl hl' hkk' hex c
    rintro ⟨rfl, _⟩ ⟨e, _⟩; exact hkk' e.symm
  · intro k r c hl
    rintro ⟨rfl, hc⟩
    rcases hc with rfl | rfl
    · exact .inl ⟨k, .map L, by simp [lookC, Nat.beq_refl], (q2 c).2 rfl, fun _ => rfl⟩
    · exact .inr (.inr (Nat.le_refl _))
  · simp only [Den]
    exact ⟨w.heap.size, Env.set_same _ _ _, rfl⟩
theorem triple_next_end {P : Program} {o : Oper} {fr : Fr} {n h it : Nat} {x : Operand} {L cur : List (AV × AV)}
    (ho : o.op = .next x false) (hx : ev fr x = some (.ptr it 0)) (hne : h ≠ it) : Triple P o fr [] [(h, .rmap L [] cur it), (it, .iter h)] n n (.tup [.bool false]) [(h, .map L), (it, .gone)] := by
  intro env F a w next Q hneed hsat hfresh hkk
  have d1 := ev_den hneed (by rw [ho]; simp [Op.operands]) hx
  simp only [Den] at d1
  obtain ⟨r0, e1, ex⟩ := d1
  obtain ⟨v1, hv1, b, r, xs, clock, since, seen, q1, q2, q3, q4, q5, q6, q7, q8, q9, q10, q11⟩ := hsat.sat (h := h) (r := .rmap L [] cur it) (by simp [lookC, Nat.beq_refl])
  rw [e1] at q3; cases q3
  have hl0 : (leftOf xs seen).size = 0 := by
    simp only [DenM] at q10
    have : (leftOf xs seen).toList = [] := by simpa [leftOf] using q10
    simpa using this
  have hrun : (execOp a.eval o).run P w = .ok (.value (.tuple #[.bool false])) w := by
    rcases run_next_at (P := P) w o.type r0 b since clock seen xs clock q6 q5 q9.2 q9.1 with ⟨_, h1⟩ | ⟨e, he, _⟩
    · simp [execOp, ho, ex, h1]
    · have : (leftOf xs seen).toList = [] := by simpa using hl0
      rw [this] at he; cases he
  unfold Oper.wp
  rw [hrun]
  refine hkk env (fun k c => k = h ∧ c = b) _ w ⟨Env.le.refl _, fun _ _ => rfl, ⟨?_, ?_⟩, ?_, FrameW.refl _ _⟩ (by simp only [Den]; exact ⟨_, rfl, by simp [Dens, Den]⟩)
  · intro k r1 hl
    rw [look_cons] at hl
    split at hl
    · rename_i e; subst e; cases hl
      exact ⟨v1, hv1, b, xs, clock, q1, fun c => by simp, q5, q7, q8⟩
    · obtain ⟨rfl, rfl⟩ := look_one hl
      exact ⟨_, e1, by rintro c ⟨e, _⟩; exact hne e.symm⟩
  · intro k r1 k' r2 hl hl' hkk' hex c
    rintro ⟨rfl, _⟩ ⟨e, _⟩; exact hkk' e.symm
  · intro k r1 c hl
    rintro ⟨rfl, rfl⟩
    exact .inl ⟨k, .rmap L [] cur it, by simp [lookC, Nat.beq_refl], (q4 c).2 (.inl rfl), fun _ => rfl⟩
theorem find_of {l : List MapEntry} {e : MapEntry} (h : l.Pairwise fun a b => a.born ≠ b.born) (he : e ∈ l) : l.find? (fun x => x.born == e.born) = some e := by
  induction l with
  | nil => cases he
  | cons a l ih =>
    rw [List.pairwise_cons] at h
    rw [List.find?_cons]
    rcases List.mem_cons.1 he with rfl | he
    · simp
    · have : (a.born == e.born) = false := by simpa using h.1 e he
      rw [this]; exact ih h.2 he
theorem triple_next_one {P : Program} {o : Oper} {fr : Fr} {n h it : Nat} {x : Operand} {L cur : List (AV × AV)} {kv v : AV}
    (ho : o.op = .next x false) (hx : ev fr x = some (.ptr it 0)) (hne : h ≠ it) :
    Triple P o fr [] [(h, .rmap L [(kv, v)] cur it), (it, .iter h)] n n (.tup [.bool true, kv, v]) [(h, .rmap L [] [(kv, v)] it), (it, .iter h)] := by
  intro env F a w next Q hneed hsat hfresh hkk
  have d1 := ev_den hneed (by rw [ho]; simp [Op.operands]) hx
  simp only [Den] at d1
  obtain ⟨r0, e1, ex⟩ := d1
  obtain ⟨v1, hv1, b, r, xs, clock, since, seen, q1, q2, q3, q4, q5, q6, q7, q8, q9, q10, q11⟩ := hsat.sat (h := h) (r := .rmap L [(kv, v)] cur it) (by simp [lookC, Nat.beq_refl])
  rw [e1] at q3; cases q3
  simp only [DenM] at q10
  obtain ⟨e0, t, g1, g2, g3, g4⟩ := q10
  subst g4
  have hleft : (leftOf xs seen).toList = [e0] := by simpa [leftOf] using g1
  rcases run_next_at (P := P) w o.type r0 b since clock seen xs clock q6 q5 q9.2 q9.1 with ⟨h0, _⟩ | ⟨e, he, w1, hw1, h1⟩
  · have : (leftOf xs seen).toList.length = 0 := by simpa using h0
    rw [hleft] at this; simp at this
  · rw [hleft] at he
    simp at he; subst he
    have hmem : e ∈ xs.toList := by
      have : e ∈ (xs.toList.filter fun e => !seen.contains e.born) := by rw [g1]; simp
      exact (List.mem_filter.1 this).1
    have hheap : w1.heap = w.heap := by rcases hw1 with rfl | rfl <;> rfl
    have hrun : (execOp a.eval o).run P w = .ok (.value (.tuple #[.bool true, e.key, e.val])) (ChangeMaps.setBlock w1 r0 (.mapIter (some b) since (seen.push e.born) clock)) := by
      simp [execOp, ho, ex, h1]
    unfold Oper.wp
    rw [hrun]
    have hat : (ChangeMaps.setBlock w1 r0 (.mapIter (some b) since (seen.push e.born) clock)).heap[r0]? = some (.mapIter (some b) since (seen.push e.born) clock) := by
      have := getElem?_lt q6
      show (w1.heap.setIfInBounds r0 _)[r0]? = _
      rw [hheap]; simp [this]
    have hoth : ∀ c, c ≠ r0 → (ChangeMaps.setBlock w1 r0 (.mapIter (some b) since (seen.push e.born) clock)).heap[c]? = w.heap[c]? := by
      intro c hc
      show (w1.heap.setIfInBounds r0 _)[c]? = _
      rw [Array.getElem?_setIfInBounds_ne (Ne.symm hc), hheap]
    refine hkk env (fun k c => k = h ∧ (c = b ∨ c = r0)) _ _ ⟨Env.le.refl _, fun _ _ => rfl, ⟨?_, ?_⟩, ?_, ?_⟩ (by simp only [Den, Dens]; exact ⟨_, rfl, _, _, rfl, rfl, _, _, rfl, g2, _, _, rfl, g3, rfl⟩)
    · intro k r1 hl
      rw [look_cons] at hl
      split at hl
      · rename_i ek; subst ek; cases hl
        refine ⟨v1, hv1, b, r0, xs, clock, since, seen.push e.born, q1, q2, e1, fun c => by simp, by rw [hoth b (Ne.symm q2)]; exact q5, hat, q7, q8, q9, ?_, ?_⟩
        · show _ = []
          rw [List.filter_eq_nil_iff]
          intro y hy
          by_cases hys : seen.contains y.born = true
          · simp at hys; simp [hys]
          · have : y ∈ (xs.toList.filter fun e => !seen.contains e.born) := List.mem_filter.2 ⟨hy, by simpa using hys⟩
            rw [g1] at this; simp at this; subst this; simp
        · have hf : xs.find? (fun x => x.born == e.born) = some e := by rw [← Array.find?_toList]; exact find_of q8.ne hmem
          unfold curOf
          simp only [Array.back?_push, hf]
          exact ⟨e, [], rfl, g2, g3, rfl⟩
      · obtain ⟨rfl, rfl⟩ := look_one hl
        exact ⟨_, e1, by rintro c ⟨ek, _⟩; exact hne ek.symm⟩
    · intro k r1 k' r2 hl hl' hkk' hex c
      rintro ⟨rfl, _⟩ ⟨ek, _⟩; exact hkk' ek.symm
    · intro k r1 c hl
      rintro ⟨rfl, hc⟩
      exact .inl ⟨k, .rmap L [(kv, v)] cur it, by simp [lookC, Nat.beq_refl], (q4 c).2 hc, fun _ => rfl⟩
    · refine ⟨?_, ?_, ?_, ?_, ?_⟩
      · rcases hw1 with rfl | rfl <;> rfl
      · rcases hw1 with rfl | rfl <;> rfl
      · rcases hw1 with rfl | rfl <;> rfl
      · show w.heap.size ≤ (w1.heap.setIfInBounds r0 _).size
        rw [hheap]; simp
      · intro c _ hc
        refine hoth c ?_
        rintro rfl
        exact hc ⟨h, _, by simp [lookC, Nat.beq_refl]; rfl, rfl, (q4 c).2 (.inr rfl)⟩
theorem triple_entry {P : Program} {o : Oper} {fr : Fr} {n h it : Nat} {x : Operand} {L todo : List (AV × AV)} {kv v : AV}
    (ho : o.op = .entry x) (hx : ev fr x = some (.ptr it 0)) : Triple P o fr [(h, .rmap L todo [(kv, v)] it)] [] n n (.tup [kv, v]) [] := by
  intro env F a w next Q hneed hsat hfresh hkk
  have d1 := ev_den hneed (by rw [ho]; simp [Op.operands]) hx
  simp only [Den] at d1
  obtain ⟨r0, e1, ex⟩ := d1
  obtain ⟨v1, hv1, b, r, xs, clock, since, seen, q1, q2, q3, q4, q5, q6, q7, q8, q9, q10, q11⟩ := hsat.sat (h := h) (r := .rmap L todo [(kv, v)] it) (by simp [lookC, Nat.beq_refl])
  rw [e1] at q3; cases q3
  simp only [DenM] at q11
  obtain ⟨e0, t, g1, g2, g3, g4⟩ := q11
  subst g4
  unfold curOf at g1
  have hrun : (execOp a.eval o).run P w = .ok (.value (.tuple #[e0.key, e0.val])) w := by
    cases hb : seen.back? with
    | none => rw [hb] at g1; cases g1
    | some st =>
      rw [hb] at g1
      simp only at g1
      cases hf : xs.find? (fun e => e.born == st) with
      | none => rw [hf] at g1; cases g1
      | some e2 =>
        rw [hf] at g1
        simp at g1; subst g1
        simp [execOp, ho, ex, Instr.entry, getObj, Sem.run, q6, q5, hb, hf, Result.andThen]
  unfold Oper.wp
  rw [hrun]
  exact hkk env F _ w (Turn.refl _ _ _ _ _) (by simp only [Den, Dens]; exact ⟨_, rfl, _, _, rfl, g2, _, _, rfl, g3, rfl⟩)
end
end Go.SX
namespace Go.SX
noncomputable section
theorem run_storeRow {P : Program} (g o : Nat) (t : TypeId) (lo hi : Nat) : ∀ (vs : List Value) (i : Nat) (cur : Array Value) (w : World), w.heap[g]? = some (.cells cur t (lo, hi)) → (cur.size ≤ lo ∨ hi ≤ lo) → o + i + vs.length ≤ cur.size →
    (∀ v ∈ vs, v.oneCell' = true) → (storeCells ⟨g, o, none⟩ vs i).run P w = .ok () (w.setRow g (cur.toList.take (o + i) ++ vs ++ cur.toList.drop (o + i + vs.length)).toArray)
  | [], i, cur, w, hg, _, _, _ => by
    simp only [storeCells, List.append_nil, List.length_nil, Nat.add_zero, List.take_append_drop, Array.toArray_toList]
    rw [setRow_self w g cur t (lo, hi) hg]
    rfl
  | v :: rest, i, cur, w, hg, hfz, hl, h1 => by
    have hi' : o + i < cur.size := by simp at hl; omega
    have hadd : (⟨g, o, none⟩ : Addr).add i = ⟨g, o + i, none⟩ := by unfold Addr.add; split <;> simp_all
    have hcell : w.cell? ⟨g, o + i, none⟩ = some cur[o + i] := by simp [World.cell?, hg, hi']
    have hfro : w.frozen? ⟨g, o + i, none⟩ = false := by
      simp only [World.frozen?, hg, Bool.and_eq_false_imp, decide_eq_true_eq, decide_eq_false_iff_not]
      intro h; omega
    have hst : (store ((⟨g, o, none⟩ : Addr).add i) v).run P w = .ok () (w.setRow g (cur.setIfInBounds (o + i) v)) := by
      rw [hadd, run_store P w _ v _ (h1 v (by simp)), hcell]
      simp [hfro, setCell_eq_setRow w g (o + i) cur t (lo, hi) v hg]
    have ih := run_storeRow (P := P) g o t lo hi rest (i + 1) (cur.setIfInBounds (o + i) v) (w.setRow g (cur.setIfInBounds (o + i) v)) (setRow_heap w g cur _ t _ hg) (by simpa using hfz) (by simp at hl ⊢; omega) (fun x hx => h1 x (by simp [hx]))
    simp only [storeCells, Sem.run_bind, hst, Result.andThen_ok, ih, setRow_setRow]
    congr 3
    have e := list_seg_step cur.toList (o + i) v rest (by simp at hl ⊢; omega)
    simpa [Array.toList_setIfInBounds, Nat.add_assoc] using e
structure RowAt (env : Env) (v : Value) (F : Nat → Prop) (w : World) (e z : Nat) (cs : List AV) (cap : Option Nat) (b o m C : Nat) (xs : Array Value) (lo hi : Nat) (ys tl : List Value) : Prop where
  val : v = .slice (some ⟨b, o, none⟩) m C
  foot : ∀ k, F k ↔ k = b
  at_ : w.heap[b]? = some (.cells xs e (lo, hi))
  fz : (z = 1 ∧ xs.size ≤ lo) ∨ hi ≤ lo
  size : xs.size = o + C * z
  split : xs.toList.drop o = ys ++ tl
  den : Dens env cs ys
  cap : ∀ k, cap = some k → C = k
theorem rowAt {env : Env} {v : Value} {F : Nat → Prop} {w : World} {e z : Nat} {cs : List AV} {cap : Option Nat} : (Res.row e z cs cap).sat env v F w ↔ ∃ b o m C xs lo hi ys tl, RowAt env v F w e z cs cap b o m C xs lo hi ys tl :=
  ⟨fun ⟨b, o, m, C, xs, lo, hi, ys, tl, h1, h2, h3, h4, h5, h6, h7, h8⟩ => ⟨b, o, m, C, xs, lo, hi, ys, tl, h1, h2, h3, h4, h5, h6, h7, h8⟩,
   fun ⟨b, o, m, C, xs, lo, hi, ys, tl, ⟨h1, h2, h3, h4, h5, h6, h7, h8⟩⟩ => ⟨b, o, m, C, xs, lo, hi, ys, tl, h1, h2, h3, h4, h5, h6, h7, h8⟩⟩
section
variable {env : Env} {v : Value} {F : Nat → Prop} {w : World} {e z : Nat} {cs : List AV} {cap : Option Nat} {b o m C : Nat} {xs : Array Value} {lo hi : Nat} {ys tl : List Value}
theorem RowAt.len (r : RowAt env v F w e z cs cap b o m C xs lo hi ys tl) : cs.length + tl.length = C * z := by
  have h1 := congrArg List.length r.split
  have h2 := r.den.length
  have h3 := r.size
  simp at h1; omega
theorem RowAt.cell (r : RowAt env v F w e z cs cap b o m C xs lo hi ys tl) {k : Nat} {u : AV} (h : cs[k]? = some u) : ∃ y, w.cell? ⟨b, o + k, none⟩ = some y ∧ Den env u y := by
  obtain ⟨y, hy, hd⟩ := r.den.get h
  refine ⟨y, ?_, hd⟩
  rw [cell_of r.at_]
  have h1 : (xs.toList.drop o)[k]? = some y := by rw [r.split, List.getElem?_append_left (getElem?_lt' hy)]; exact hy
  rw [List.getElem?_drop] at h1
  simpa using h1
where
  getElem?_lt' {α : Type} {l : List α} {i : Nat} {x : α} (h : l[i]? = some x) : i < l.length := by
    rcases Nat.lt_or_ge i l.length with h' | h'
    · exact h'
    · simp [List.getElem?_eq_none h'] at h
theorem RowAt.read (r : RowAt env v F w e z cs cap b o m C xs lo hi ys tl) {i n : Nat} (h : i + n ≤ cs.length) : ∃ news : List Value, news.length = n ∧ (∀ j u, news[j]? = some u → w.cell? ((⟨b, o + i, none⟩ : Addr).add j) = some u) ∧ Dens env ((cs.drop i).take n) news := by
  refine ⟨(ys.drop i).take n, ?_, ?_, (r.den.drop i).take n⟩
  · have := r.den.length; simp; omega
  · intro j u hu
    rw [List.getElem?_take] at hu
    split at hu
    · rw [List.getElem?_drop] at hu
      rw [addr_add, cell_of r.at_]
      have hlt : i + j < ys.length := by have := r.den.length; omega
      have h1 : (xs.toList.drop o)[i + j]? = some u := by rw [r.split, List.getElem?_append_left hlt]; exact hu
      rw [List.getElem?_drop] at h1
      rw [Nat.add_assoc]
      simpa using h1
    · cases hu
end
theorem Turn.row_write {env : Env} {F : Foot} {w : World} {h e z n : Nat} {cs : List AV} {cap : Option Nat} {R : Heap} (hs : SatH env ([(h, .row e z cs cap)] ++ R) F w) {b o m C k : Nat} (hb : env h = some (.slice (some ⟨b, o, none⟩) m C)) {ws : List AV} {vs : List Value}
    (hk : k ≤ cs.length) (hfit : k + ws.length ≤ C * z) (hd : Dens env ws vs) (hl : ∀ v ∈ vs, v.oneCell' = true) :
    ∃ w' F', (∀ P : Program, (storeCells ⟨b, o + k, none⟩ vs 0).run P w = .ok () w') ∧ Turn n n R [(h, .row e z cs cap)] [(h, .row e z (splice cs k ws) cap)] env F w env F' w' := by
  obtain ⟨v1, hv1, hsat⟩ := hs.sat (h := h) (r := .row e z cs cap) (by simp [lookC, Nat.beq_refl])
  rw [hb] at hv1; cases hv1
  obtain ⟨b', o', m', C', xs, lo, hi, ys, tl, r⟩ := rowAt.1 hsat
  have hval := r.val
  simp only [Value.slice.injEq, Option.some.injEq, Addr.mk.injEq] at hval
  obtain ⟨⟨rfl, rfl, -⟩, rfl, rfl⟩ := hval
  have hlen := r.len
  have hys := r.den.length
  have hws := hd.length
  have hsz := r.size
  have hst := fun P : Program => run_storeRow (P := P) b (o + k) e lo hi vs 0 xs w r.at_ (r.fz.imp_left And.right) (by omega) hl
  simp only [Nat.add_zero] at hst
  have hF := r.foot
  refine ⟨_, fun _ x => x = b, hst, Env.le.refl _, fun _ _ => rfl, ⟨?_, ?_⟩, ?_, ⟨rfl, rfl, rfl, by simp, ?_⟩⟩
  · intro h' r' hl'
    obtain ⟨rfl, rfl⟩ := look_one hl'
    refine ⟨_, hb, rowAt.2 ⟨b, o, m, C, _, lo, hi, ys.take k ++ (vs ++ ys.drop (k + vs.length)), tl.drop (k + vs.length - ys.length), rfl, fun _ => Iff.rfl, setRow_heap w b xs _ e (lo, hi) r.at_, ?_, ?_, ?_, splice_den r.den hd k, r.cap⟩⟩
    · have : (List.take (o + k) xs.toList ++ vs ++ List.drop (o + k + vs.length) xs.toList).toArray.size = xs.size := by simp; omega
      rw [this]; exact r.fz
    · simp; omega
    · have e1 : xs.toList.take (o + k) = xs.toList.take o ++ (xs.toList.drop o).take k := by rw [List.take_add]
      have e2 : xs.toList.drop (o + k + vs.length) = (xs.toList.drop o).drop (k + vs.length) := by rw [List.drop_drop, Nat.add_assoc]
      simp only
      rw [e1, e2, r.split]
      have e3 : (xs.toList.take o).length = o := by simp; omega
      rw [List.append_assoc, List.append_assoc, List.drop_append, List.drop_of_length_le (by omega), e3, Nat.sub_self, List.drop_zero, List.nil_append, List.take_append_of_le_length (by omega), List.drop_append]
      simp only [List.append_assoc]
  · intro h1 r1 h2 r2 hl1 hl2 hne
    obtain ⟨rfl, rfl⟩ := look_one hl1
    obtain ⟨rfl, rfl⟩ := look_one hl2
    exact absurd rfl hne
  · intro h' r' x hl' hx
    obtain ⟨rfl, rfl⟩ := look_one hl'
    exact .inl ⟨h', _, by simp [lookC, Nat.beq_refl]; rfl, (hF x).2 hx, fun _ => rfl⟩
  · intro x _ hx
    exact setRow_other w b x _ fun e' => hx ⟨h, .row e z cs cap, by simp [lookC, Nat.beq_refl], rfl, (hF x).2 e'⟩
theorem Turn.row_new {n : Nat} {R : Heap} {env : Env} {F : Foot} {w w1 : World} {xs : Array Value} {e z m C lo hi : Nat} {cs : List AV} {ys tl : List Value} {cap : Option Nat} (hn : env n = none)
    (hw : w1.heap = w.heap ∧ w1.os = w.os ∧ w1.tape = w.tape ∧ w1.output = w.output) (hsz : xs.size = C * z) (hsp : xs.toList = ys ++ tl) (hd : Dens env cs ys) (hfz : (z = 1 ∧ xs.size ≤ lo) ∨ hi ≤ lo) (hc : ∀ k, cap = some k → C = k) :
    Turn n (n + 1) R [] [(n, .row e z cs cap)] env F w (env.set n (.slice (some ⟨w.heap.size, 0, none⟩) m C)) (fun _ b => b = w.heap.size) (w1.alloc (.cells xs e (lo, hi))) := by
  obtain ⟨hw1, hw2, hw3, hw4⟩ := hw
  refine ⟨Env.le_set hn, ?_, ⟨?_, ?_⟩, ?_, ⟨hw2, hw3, hw4, ?_, ?_⟩⟩
  · intro h hh; unfold Env.set; rw [if_neg (by omega)]
  · intro h r hl
    obtain ⟨rfl, rfl⟩ := look_one hl
    refine ⟨_, Env.set_same _ _ _, rowAt.2 ⟨w.heap.size, 0, m, C, xs, lo, hi, ys, tl, rfl, fun _ => Iff.rfl, ?_, hfz, by omega, by simpa using hsp, Dens.mono (Env.le_set hn) cs hd, hc⟩⟩
    show (w1.heap.push _)[w.heap.size]? = _
    rw [hw1]; simp
  · intro h r h' r' hl hl' hne
    obtain ⟨rfl, rfl⟩ := look_one hl
    obtain ⟨rfl, rfl⟩ := look_one hl'
    exact absurd rfl hne
  · intro h r b hl hb
    exact .inr (.inr (Nat.le_of_eq hb.symm))
  · show _ ≤ (w1.heap.push _).size
    rw [hw1]; simp
  · intro b hb _
    show (w1.heap.push _)[b]? = _
    rw [hw1, Array.getElem?_push, if_neg (by omega)]
theorem sv_new {env : Env} {n z b m C : Nat} {cap : Option Nat} (hm : m ≤ C) (hc : ∀ k, cap = some k → C = k) : Den (env.set n (.slice (some ⟨b, 0, none⟩) m C)) (.sv n z 0 m cap) (.slice (some ⟨b, 0, none⟩) m C) := by
  simp only [Den]
  exact ⟨b, 0, m, C, _, C, Env.set_same _ _ _, rfl, hm, by omega, fun _ => by omega, fun k hk => hc k hk, fun _ => by simp⟩
theorem triple_load_row {P : Program} {T : Tab} (hT : TabOK P T) {o : Oper} {fr : Fr} {n h i c e z : Nat} {t : TypeId} {x : Operand} {r : TRow} {cs : List AV} {cap : Option Nat} {v : AV}
    (ho : o.op = .load t x) (hx : ev fr x = some (.el h z i c)) (hr : T t = some r) (hv : readA r.agg r.size cs (i * z + c) = some v) :
    Triple P o fr [(h, .row e z cs cap)] [] n n v [] := by
  intro env F a w next Q hn hs _ hk
  have hd := ev_den hn (by rw [ho]; simp [Op.operands]) hx
  simp only [Den] at hd
  obtain ⟨b, p, len, cp, hb, hx'⟩ := hd
  obtain ⟨v1, hv1, hsat⟩ := hs.sat (h := h) (r := .row e z cs cap) (by simp [lookC, Nat.beq_refl])
  rw [hb] at hv1
  cases hv1
  obtain ⟨b', o', m', C', xs, lo, hi, ys, tl, rw1⟩ := rowAt.1 hsat
  have hval := rw1.val
  simp only [Value.slice.injEq, Option.some.injEq, Addr.mk.injEq] at hval
  obtain ⟨⟨rfl, rfl, -⟩, rfl, rfl⟩ := hval
  obtain ⟨ag, sz, zz, k⟩ := r
  generalize hoff : i * z + c = off at *
  have : ∃ y, (loadVar t ⟨b, p + off, none⟩).run P w = .ok y w ∧ Den env v y := by
    cases ag with
    | true =>
      simp only [readA, takeR_eq, dropR_eq, lenR_eq] at hv
      split at hv
      · rename_i hle
        cases hv
        have hle := Nat.le_of_ble_eq_true hle
        refine run_loadVar_cells hT hr (cs := (cs.drop off).take sz) (by simp; omega) ?_ (.inl ⟨rfl, rfl⟩)
        intro j u hu
        rw [List.getElem?_take] at hu
        split at hu
        · rw [List.getElem?_drop] at hu
          obtain ⟨y, hy, hyd⟩ := rw1.cell hu
          exact ⟨y, by rw [Nat.add_assoc]; exact hy, hyd⟩
        · cases hu
      · cases hv
    | false =>
      simp only [readA] at hv
      split at hv
      · rename_i hle
        have hle := Nat.eq_of_beq_eq_true hle
        subst hle
        rw [nth_eq] at hv
        refine run_loadVar_cells hT hr (cs := [v]) rfl ?_ (.inr ⟨rfl, rfl⟩)
        intro j u hu
        cases j with
        | zero =>
          simp at hu; subst hu
          obtain ⟨y, hy, hyd⟩ := rw1.cell hv
          exact ⟨y, by rw [Nat.add_zero]; exact hy, hyd⟩
        | succ j => simp at hu
      · cases hv
  obtain ⟨y, hy, hyd⟩ := this
  unfold Oper.wp
  rw [show (execOp a.eval o).run P w = .ok (.value y) w by simp [execOp, ho, Instr.loadAt, hx', Instr.sureAddr, hy]]
  exact hk env F y w (Turn.refl _ _ _ _ _) hyd
theorem triple_store_row {P : Program} {T : Tab} (hT : TabOK P T) {o : Oper} {fr : Fr} {n h i c e z : Nat} {t : TypeId} {x y : Operand} {r : TRow} {cs : List AV} {cap : Option Nat} {v : AV}
    (ho : o.op = .store t x y) (hx : ev fr x = some (.el h z i c)) (hy : ev fr y = some v) (hr : T t = some r) (hv : rawA v = false)
    (hl : (cellsOf v).all leafA = true) (hsz : (cellsOf v).length = r.size) (hle : i * z + c + r.size ≤ cs.length) :
    Triple P o fr [] [(h, .row e z cs cap)] n n (.raw undef) [(h, .row e z (splice cs (i * z + c) (cellsOf v)) cap)] := by
  intro env F a w next Q hn hs _ hk
  have hd := ev_den hn (by rw [ho]; simp [Op.operands]) hx
  have hdy := ev_den hn (by rw [ho]; simp [Op.operands]) hy
  simp only [Den] at hd
  obtain ⟨b, p, len, cp, hb, hx'⟩ := hd
  have hc := cellsOf_den (rawA_no hv) hdy
  obtain ⟨v1, hv1, hsat⟩ := hs.sat (h := h) (r := .row e z cs cap) (by simp [lookC, Nat.beq_refl])
  rw [hb] at hv1
  cases hv1
  obtain ⟨b', o', m', C', xs, lo, hi, ys, tl, rw1⟩ := rowAt.1 hsat
  have hval := rw1.val
  simp only [Value.slice.injEq, Option.some.injEq, Addr.mk.injEq] at hval
  obtain ⟨⟨rfl, rfl, -⟩, rfl, rfl⟩ := hval
  obtain ⟨h1, _, _, h4⟩ := row_info hT hr w
  have hlen := hc.length
  have hC := rw1.len
  obtain ⟨w', F', hst, ht⟩ := Turn.row_write (n := n) hs hb (k := i * z + c) (by omega) (by omega) hc (leaves_one hl hc)
  have hsz' : (a.eval y).cells.size = r.size := by rw [← hsz, hlen]; simp
  unfold Oper.wp
  have hrun : (execOp a.eval o).run P w = .ok .skip w' := by
    simp only [execOp, ho, Instr.storeAt, Sem.run_bind, hx', Instr.sureAddr, Sem.run_pure, Result.andThen_ok, storeVar, h1, hsz', ne_eq, not_true_eq_false, if_false]
    rw [hst P]; rfl
  rw [hrun]
  exact hk env F' undef w' ht (by simp only [Den])
end
end Go.SX
namespace Go.SX
noncomputable section
theorem fillA_length {z : Nat} : ∀ {vs : List (Nat × AV)} {c c' : List AV}, fillA (fun i => some (i * z, z)) c vs = some c' → c'.length = c.length
  | [], c, c', h => by simp only [fillA_nil, Option.some.injEq] at h; rw [h]
  | (i, v) :: vs, c, c', h => by
    rw [fillA_cons] at h
    split at h
    · cases h
    · rename_i off s2 hpl hraw
      split at h
      · rename_i q1 q2
        have q1 := Nat.eq_of_beq_eq_true q1
        have q2 := Nat.le_of_ble_eq_true q2
        rw [fillA_length h]
        rw [splice_def]
        simp only [List.length_append, List.length_take, List.length_drop]
        omega
      · cases h
    · cases h
theorem triple_build_row {P : Program} {T : Tab} (hT : TabOK P T) {o : Oper} {fr : Fr} {n m sz : Nat} {t e : TypeId} {ag : Bool} {z cs : List AV} {k : TK} {ps : Array (Nat × Operand)} {vs : List (Nat × AV)}
    (ho : o.op = .buildSlice t m ps) (hk : kindOf T t = .slice e) (hr : T e = some ⟨ag, sz, z, k⟩) (hv : evps fr ps.toList = some vs) (hz : Nat.beq z.length sz = true) (hm : Nat.ble (m * sz) 16777216 = true)
    (hf : fillA (fun i => some (i * sz, sz)) (repA m sz z) vs = some cs) :
    Triple P o fr [] [] n (n + 1) (.sv n sz 0 m (some m)) [(n, .row e sz cs (some m))] := by
  intro env F a w next Q hn hs hfresh hkk
  have hz := Nat.eq_of_beq_eq_true hz
  have hm := Nat.le_of_ble_eq_true hm
  have hn' := hfresh n (Nat.le_refl _) (by omega)
  obtain ⟨d, h4, rfl⟩ := kind_run hT hk (by simp) w
  obtain ⟨h1, ⟨zv, h2, h3⟩, _, _⟩ := row_info hT hr w
  have hp := evps_den hn (by intro p hp; rw [ho]; simp only [Op.operands]; simp; exact ⟨p.1, by simpa using hp⟩) hv
  obtain ⟨zc, hzc, hzd⟩ : ∃ zc : Array Value, ((m * sz = 0 ∧ zc = #[]) ∨ (m * sz ≠ 0 ∧ zc = zv.cells)) ∧ Dens env (repA m sz z) ((Array.range (m * sz)).map (zc[· % zc.size]!)).toList := by
    by_cases h0 : m * sz = 0
    · exact ⟨#[], .inl ⟨h0, rfl⟩, by simp [repA, h0, Dens]⟩
    · exact ⟨zv.cells, .inr ⟨h0, rfl⟩, repA_den (h3 env).1 hz h0⟩
  obtain ⟨ys, h8, h9⟩ := fill_ok (place := fun i => some (i * sz, sz)) hp (xs := (Array.range (m * sz)).map (zc[· % zc.size]!)) hzd hf
  have hlen := h9.length
  have hcs : cs.length = m * sz := by rw [fillA_length hf]; simp [repA]
  have hysz : ys.size = m * sz := by
    have : ys.size = ys.toList.length := by simp
    rw [this, ← hlen, hcs]
  have hrun : (execOp a.eval o).run P w = .ok (.value (.slice (some ⟨w.heap.size, 0, none⟩) m m)) (w.alloc (.cells ys e)) := by
    have g1 : ¬ (m * sz > 2 ^ 24) := by omega
    rcases hzc with ⟨h0, rfl⟩ | ⟨h0, rfl⟩
    · simp only [execOp, ho, Instr.buildSlice, Sem.run_bind, h4, Result.andThen_ok, h1, show ¬ (0 > 2 ^ 24) by omega, if_false, h0, if_true, Sem.run_pure, Array.toList_map]
      rw [h0] at h8
      rw [h8]
      simp [newRow]
    · simp only [execOp, ho, Instr.buildSlice, Sem.run_bind, h4, Result.andThen_ok, h1, g1, if_false, h0, h2, Sem.run_pure, Array.toList_map, h8, newRow]
      simp
  unfold Oper.wp
  rw [hrun]
  exact hkk _ _ _ _ (Turn.row_new (w1 := w) (ys := ys.toList) (tl := []) (lo := 0) (hi := 0) hn' ⟨rfl, rfl, rfl, rfl⟩ hysz (by simp) h9 (.inr (Nat.le_refl _)) (fun k hk => by cases hk; rfl)) (sv_new (Nat.le_refl _) (fun k hk => by cases hk; rfl))
theorem triple_makeSlice {P : Program} {T : Tab} (hT : TabOK P T) {o : Oper} {fr : Fr} {n m c sz : Nat} {t e : TypeId} {ag : Bool} {z : List AV} {kk : TK} {x y : Operand} {k1 k2 : IntKind} {l1 c1 : Int}
    (ho : o.op = .makeSlice t x y) (hk : kindOf T t = .slice e) (hr : T e = some ⟨ag, sz, z, kk⟩) (hx : ev fr x = some (.int k1 l1)) (hy : ev fr y = some (.int k2 c1)) (hz : Nat.beq z.length sz = true)
    (h1 : 0 ≤ l1 ∧ l1 ≤ c1 ∧ c1 ≤ 4398046511104 ∧ c1.toNat * sz ≤ 4398046511104 ∧ m = l1.toNat ∧ c = c1.toNat) (hpos : Nat.blt 0 sz = true) :
    Triple P o fr [] [] n (n + 1) (.sv n sz 0 m (some c)) [(n, .row e sz (repA c sz z) (some c))] := by
  intro env F a w next Q hn hs hfresh hkk
  have hz := Nat.eq_of_beq_eq_true hz
  have hpos : 0 < sz := by simpa using hpos
  obtain ⟨a1, a2, a3, a4, rfl, rfl⟩ := h1
  have hn' := hfresh n (Nat.le_refl _) (by omega)
  obtain ⟨d, hu, hkind⟩ := kindOf_ok hT hk (by simp)
  simp only [KindOK] at hkind; subst hkind
  obtain ⟨⟨i, zv, g1, g2, g3, g4, g5, g6⟩, _⟩ := hT e _ hr
  simp only at g2 g5
  have dx := ev_den hn (by rw [ho]; simp [Op.operands]) hx
  have dy := ev_den hn (by rw [ho]; simp [Op.operands]) hy
  simp only [Den] at dx dy
  have hbytes : c1.toNat * i.bytes ≤ 32 * 4398046511104 := by
    have : c1.toNat * i.bytes ≤ c1.toNat * (32 * sz) := Nat.mul_le_mul_left _ (by rw [← g2]; exact g6)
    have h32 : c1.toNat * (32 * sz) = 32 * (c1.toNat * sz) := by rw [Nat.mul_left_comm]
    omega
  have hbi : (i.bytes : Int) * c1 ≤ 281474976710656 := by
    have h : ((c1.toNat * i.bytes : Nat) : Int) ≤ 281474976710656 := by omega
    rw [Int.natCast_mul, Int.toNat_of_nonneg (by omega), Int.mul_comm] at h
    exact h
  have hrun := run_make (P := P) w t e i zv hu g1 g3 k1 k2 l1 c1 a1 a2 hbi (by omega)
  unfold Oper.wp
  rw [show (execOp a.eval o).run P w = .ok (.value (.slice (some ⟨w.heap.size, 0, none⟩) l1.toNat c1.toNat)) (w.alloc (.cells (madeCells zv.cells (c1.toNat * i.size)) e)) by
    simp only [execOp, ho, dx, dy, Sem.run_bind]; rw [hrun]; rfl]
  rw [g2]
  have hden : Dens env (repA c1.toNat sz z) (madeCells zv.cells (c1.toNat * sz)).toList := by
    by_cases h0 : c1.toNat * sz = 0
    · simp [repA, h0, madeCells, Dens]
    · exact repA_den (g5 env) hz h0
  exact hkk _ _ _ _ (Turn.row_new (w1 := w) (ys := _) (tl := []) (lo := 0) (hi := 0) hn' ⟨rfl, rfl, rfl, rfl⟩ (by simp [madeCells]) (by simp) hden (.inr (Nat.le_refl _)) (fun k hk => by cases hk; rfl))
    (sv_new (by omega) (fun k hk => by cases hk; rfl))
def bytesA (s : ByteArray) : List AV := s.data.toList.map fun b => .int .u8 b.toNat
theorem bytesA_den {env : Env} : ∀ (l : List UInt8), Dens env (l.map fun b => AV.int .u8 b.toNat) (l.map fun b => Value.int .u8 b.toNat)
  | [] => by simp [Dens]
  | b :: l => by simp only [List.map_cons, Dens]; exact ⟨_, _, rfl, by simp only [Den], bytesA_den l⟩
def flatC (z : Nat) (c : Nat → Nat → AV) : Nat → Nat → List AV
  | _, 0 => []
  | i, n + 1 => cellsFrom (c i) 0 z ++ flatC z c (i + 1) n
theorem flatC_length (z : Nat) (c : Nat → Nat → AV) : ∀ (n i : Nat), (flatC z c i n).length = n * z
  | 0, i => by simp [flatC]
  | n + 1, i => by simp only [flatC, List.length_append, cellsFrom_length, flatC_length z c n, Nat.add_mul]; omega
theorem flatC_get {z : Nat} {c : Nat → Nat → AV} : ∀ {n i j : Nat} {u : AV}, (flatC z c i n)[j]? = some u → 0 < z → j / z < n ∧ u = c (i + j / z) (j % z)
  | 0, i, j, u, h, _ => by simp [flatC] at h
  | n + 1, i, j, u, h, hz => by
    unfold flatC at h
    by_cases hj : j < z
    · rw [List.getElem?_append_left (by rw [cellsFrom_length]; exact hj)] at h
      obtain ⟨h1, _⟩ := cellsFrom_get h
      rw [Nat.div_eq_of_lt hj, Nat.mod_eq_of_lt hj]
      exact ⟨by omega, by simpa using h1⟩
    · rw [List.getElem?_append_right (by rw [cellsFrom_length]; omega), cellsFrom_length] at h
      obtain ⟨h1, h2⟩ := flatC_get h hz
      have e1 : j / z = (j - z) / z + 1 := by
        have := Nat.div_eq_sub_div hz (by omega : z ≤ j); exact this
      have e2 : j % z = (j - z) % z := Nat.mod_eq_sub_mod (by omega)
      rw [e1, e2]
      exact ⟨by omega, by rw [h2]; congr 1; omega⟩
def srcH : AV → Option Nat
  | .sv h _ _ _ _ => some h
  | .slc h _ _ _ => some h
  | .sl h _ => some h
  | _ => none
def lenA (y : AV) (r : Option Res) : Option Nat :=
  match y, r with
  | .nils, _ => some 0
  | .str s, _ => some s.size
  | .sv _ _ _ len _, _ => some len
  | .slc _ _ len _, _ => some len
  | .sl _ _, some (.abs D) => match D.tag with | some _ => some D.len | none => none
  | _, _ => none
def readsA (z : Nat) (y : AV) (r : Option Res) (k : Nat) : Option (List AV) :=
  match y, r with
  | .nils, _ => match Nat.beq k 0 with | true => some [] | false => none
  | .str s, _ => match Nat.beq z 1 with | true => some ((bytesA s).take k) | false => none
  | .sv _ z' i _ _, some (.row _ z'' cs _) => match Nat.beq z' z && (Nat.beq z'' z && Nat.ble (i * z + k * z) cs.length) with | true => some ((cs.drop (i * z)).take (k * z)) | false => none
  | .slc _ off _ _, some (.box _ cs) => match Nat.ble (off + k * z) cs.length with | true => some ((cs.drop off).take (k * z)) | false => none
  | .sl _ _, some (.abs D) => match D.tag, Nat.beq D.esz z && Nat.blt 0 z with | some _, true => some (flatC z D.cell 0 k) | _, _ => none
  | _, _ => none
theorem lenA_ok {P : Program} {env : Env} {H : Heap} {F : Foot} {w : World} {y : AV} {x : Value} {r : Option Res} {n : Nat} (hs : SatH env H F w) (hr : ∀ h, srcH y = some h → ∃ q, r = some q ∧ look H h = some q) (hd : Den env y x)
    (hl : lenA y r = some n) : ∀ w', (Builtin.lenOf x).run P w' = .ok n w' := by
  intro w'
  unfold lenA at hl
  split at hl
  · cases hl; simp only [Den] at hd; subst hd; rfl
  · cases hl; simp only [Den] at hd; subst hd; rfl
  · cases hl; simp only [Den] at hd; obtain ⟨_, _, _, _, _, _, _, rfl, _⟩ := hd; rfl
  · cases hl; simp only [Den] at hd; obtain ⟨_, _, rfl⟩ := hd; rfl
  · rename_i h len D
    split at hl
    · rename_i k hk
      cases hl
      simp only [Den] at hd
      obtain ⟨q, hq, hlk⟩ := hr h rfl
      cases hq
      obtain ⟨v1, hv1, s1⟩ := hs.sat hlk
      rw [hd.1] at hv1; cases hv1
      obtain ⟨p, cap, rfl, _⟩ := D.reads _ hk s1
      rfl
    · cases hl
  · cases hl
theorem readsA_ok {P : Program} {env : Env} {H : Heap} {F : Foot} {w : World} {y : AV} {x : Value} {r : Option Res} {z k n : Nat} {ws : List AV} (hs : SatH env H F w) (hr : ∀ h, srcH y = some h → ∃ q, r = some q ∧ look H h = some q)
    (hd : Den env y x) (hrd : readsA z y r k = some ws) (hln : lenA y r = some n) (hkn : k ≤ n) :
    ∃ news : List Value, (∀ w' : World, w'.heap = w.heap → (Builtin.firstCells z k x).run P w' = .ok news.toArray w') ∧ news.length = k * z ∧ Dens env ws news := by
  have hcell : ∀ {w' : World} {a : Addr}, w'.heap = w.heap → w'.cell? a = w.cell? a := by
    intro w' a h
    simp [World.cell?, h]
  have fromCells : ∀ {a : Addr} {l c : Nat} {news : List Value}, x = .slice (some a) l c → news.length = k * z → (∀ j u, news[j]? = some u → w.cell? (a.add j) = some u) → Dens env ws news →
      ∃ news : List Value, (∀ w' : World, w'.heap = w.heap → (Builtin.firstCells z k x).run P w' = .ok news.toArray w') ∧ news.length = k * z ∧ Dens env ws news := by
    intro a l c news hx hl hc hdn
    subst hx
    exact ⟨news, fun w' hw => run_firstCells_some w' z k a l c news hl (fun j u hu => by rw [hcell hw]; exact hc j u hu), hl, hdn⟩
  have zero : ∀ {p : Option Addr} {l c : Nat}, x = .slice p l c → k * z = 0 → ws = [] →
      ∃ news : List Value, (∀ w' : World, w'.heap = w.heap → (Builtin.firstCells z k x).run P w' = .ok news.toArray w') ∧ news.length = k * z ∧ Dens env ws news := by
    intro p l c hx hk hw
    subst hx; subst hw
    refine ⟨[], fun w' _ => ?_, by simp [hk], by simp [Dens]⟩
    cases p with
    | none => simp [Builtin.firstCells]
    | some a => simp [Builtin.firstCells, hk, loadCells, loadCellsFrom]
  unfold readsA at hrd
  split at hrd
  · split at hrd
    · rename_i hk
      have hk := Nat.eq_of_beq_eq_true hk
      cases hrd
      simp only [Den] at hd
      exact zero hd (by simp [hk]) rfl
    · cases hrd
  · rename_i s
    split at hrd
    · rename_i hz
      have hz := Nat.eq_of_beq_eq_true hz
      subst hz
      cases hrd
      simp only [Den] at hd; subst hd
      simp only [lenA, Option.some.injEq] at hln
      have hsz : s.data.toList.length = s.size := by rw [Array.length_toList]; rfl
      refine ⟨(s.data.toList.map fun b => Value.int .u8 b.toNat).take k, fun w' _ => ?_, ?_, (bytesA_den _).take k⟩
      · simp only [Builtin.firstCells, Sem.run_pure]
        congr 1
        apply Array.ext'
        simp
      · simp; omega
    · cases hrd
  · rename_i h z' i len cap e z'' cs rc
    split at hrd
    · rename_i hb
      simp only [Bool.and_eq_true] at hb
      obtain ⟨b1, b2, b3⟩ := hb
      have b1 := Nat.eq_of_beq_eq_true b1
      have b2 := Nat.eq_of_beq_eq_true b2
      have b3 := Nat.le_of_ble_eq_true b3
      subst b1; subst b2
      cases hrd
      simp only [Den] at hd
      obtain ⟨b, o, m, C, p, c, he, hx, hlc, hic, hc1, hc2, hp⟩ := hd
      simp only [lenA, Option.some.injEq] at hln
      by_cases hk0 : k = 0
      · exact zero hx (by simp [hk0]) (by simp [hk0])
      · obtain ⟨q, hq, hlk⟩ := hr h rfl
        cases hq
        obtain ⟨v1, hv1, s1⟩ := hs.sat hlk
        rw [he] at hv1; cases hv1
        obtain ⟨b', o', m', C', xs, lo, hi, ys, tl, rw1⟩ := rowAt.1 s1
        have hval := rw1.val
        simp only [Value.slice.injEq, Option.some.injEq, Addr.mk.injEq] at hval
        obtain ⟨⟨rfl, rfl, -⟩, rfl, rfl⟩ := hval
        obtain ⟨news, g1, g2, g3⟩ := rw1.read b3
        have hpp := hp (by omega)
        subst hpp
        exact fromCells hx g1 g2 g3
    · cases hrd
  · rename_i h off len cap e cs
    split at hrd
    · rename_i b3
      have b3 := Nat.le_of_ble_eq_true b3
      cases hrd
      simp only [Den] at hd
      obtain ⟨b, he, hx⟩ := hd
      obtain ⟨q, hq, hlk⟩ := hr h rfl
      cases hq
      obtain ⟨v1, hv1, b1, xs, q1, q2, q3, q4⟩ := hs.sat hlk
      rw [he] at hv1; cases hv1; cases q1
      refine fromCells (news := (xs.toList.drop off).take (k * z)) hx ?_ ?_ ((q4.drop off).take _)
      · have := q4.length
        simp at this ⊢; omega
      · intro j u hu
        rw [List.getElem?_take] at hu
        split at hu
        · rw [List.getElem?_drop] at hu
          rw [addr_add, cell_of q3]; simpa using hu
        · cases hu
    · cases hrd
  · rename_i h len D
    split at hrd
    · rename_i j hj hb
      simp only [Bool.and_eq_true] at hb
      obtain ⟨b1, b2⟩ := hb
      have b1 := Nat.eq_of_beq_eq_true b1
      have b2 : 0 < z := by simpa using b2
      cases hrd
      simp only [Den] at hd
      obtain ⟨q, hq, hlk⟩ := hr h rfl
      cases hq
      obtain ⟨v1, hv1, s1⟩ := hs.sat hlk
      rw [hd.1] at hv1; cases hv1
      have rd := D.reads _ hj s1
      rw [b1] at rd
      simp only [lenA, hj, Option.some.injEq] at hln
      subst hln
      by_cases hk0 : k = 0
      · obtain ⟨p, cap, hx, _⟩ := rd
        exact zero hx (by simp [hk0]) (by simp [hk0, flatC])
      · rcases reads_list rd b2 with ⟨h0, _⟩ | ⟨a, cap, news, hx, hl, hnews, hcl⟩
        · omega
        · have hkz : k * z ≤ D.len * z := Nat.mul_le_mul_right _ hkn
          refine fromCells (news := news.take (k * z)) hx (by simp; omega) ?_ ?_
          · intro j u hu
            rw [List.getElem?_take] at hu
            split at hu
            · exact hnews j u hu
            · cases hu
          · rw [dens_iff]
            refine ⟨by rw [flatC_length]; simp; omega, ?_⟩
            intro j u hu
            obtain ⟨g1, g2⟩ := flatC_get hu b2
            have hjl : j < k * z := (Nat.div_lt_iff_lt_mul b2).1 g1
            obtain ⟨v, q1, q2⟩ := hcl (j / z) (j % z) (by omega) (Nat.mod_lt _ b2)
            have hj2 : j / z * z + j % z = j := by rw [Nat.mul_comm]; exact Nat.div_add_mod j z
            rw [hj2] at q1
            refine ⟨v, by rw [List.getElem?_take, if_pos hjl]; exact q1, ?_⟩
            rw [g2, Nat.zero_add]; exact q2.2 env
    · cases hrd
  · cases hrd
end
end Go.SX
-- MERGED
-- SQUEEZED
