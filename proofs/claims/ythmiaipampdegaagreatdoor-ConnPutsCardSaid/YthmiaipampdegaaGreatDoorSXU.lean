/- SX, part U: what strings.Builder does to memory: unsafe pointers, a row's bytes as a text, room that is asked for. -/
import Derived.Test.YthmiaipampdegaaGreatDoorSXT
import Derived.Lib.Builder
import Derived.Lib.UnsafeStr
import Derived.Lib.MakeNoZero
namespace Go.SX
noncomputable section

theorem box_of {env : Env} {H : Heap} {F : Foot} {w : World} {h e off : Nat} {cs : List AV} {x : Value} (hs : SatH env H F w) (hl : look H h = some (.box e cs)) (hd : Den env (.ptr h off) x) :
    ∃ b xs, x = .pointer (some ⟨b, off, none⟩) ∧ w.heap[b]? = some (.cells xs e (0, 0)) ∧ Dens env cs xs.toList := by
  simp only [Den] at hd
  obtain ⟨b, h1, h2⟩ := hd
  obtain ⟨v, hv, b', xs, e1, e2, e3, e4⟩ := hs.sat hl
  rw [h1] at hv
  cases hv
  simp only [Value.pointer.injEq, Option.some.injEq, Addr.mk.injEq, and_true] at e1
  subst e1
  exact ⟨b, xs, h2, e3, e4⟩

theorem triple_to_unsafe {P : Program} {o : Oper} {fr : Fr} {n h off e s d t : Nat} {x : Operand} {cs : List AV} {j : TypeInfo}
    (ho : o.op = .convert s d x) (hx : ev fr x = some (.ptr h off)) (hs : P.underlying s = some (.pointer t)) (hd : P.underlying d = some .unsafePointer) (ht : P.info? t = some j) (hj : j.size ≠ 0) (hlt : off < cs.length) :
    Triple P o fr [(h, .box e cs)] [] n n (.ptr h off) [] := by
  intro env F a w next Q hn hsat hfresh hk
  have hd1 := ev_den hn (by rw [ho]; simp [Op.operands]) hx
  obtain ⟨b, xs, e1, e2, e3⟩ := box_of (e := e) (cs := cs) (H := [] ++ [(h, Res.box e cs)]) hsat (by simp [look_cons]) hd1
  have hsh : w.shape? b = some (e, xs.size) := by simp [World.shape?, e2]
  have hrun := Lib.run_to_unsafe (P := P) w ⟨b, off, none⟩ hs hd ht hj hsh (by have := e3.length; simp at this; simp only; omega)
  unfold Oper.wp
  rw [show (execOp a.eval o).run P w = .ok (.value (.pointer (some ⟨b, off, none⟩))) w by simp [execOp, ho, e1, hrun]]
  exact hk env F _ w (Turn.refl _ _ _ _ _) (e1 ▸ hd1)

theorem triple_from_unsafe {P : Program} {o : Oper} {fr : Fr} {n h off e s d u : Nat} {x : Operand} {cs : List AV} {j : TypeInfo}
    (ho : o.op = .convert s d x) (hx : ev fr x = some (.ptr h off)) (hs : P.underlying s = some .unsafePointer) (hd : P.underlying d = some (.pointer u)) (hu : P.info? u = some j) (hlies : liesAt P P.depth e (cs.length / P.cellsOf e) off u 1 = true) :
    Triple P o fr [(h, .box e cs)] [] n n (.ptr h off) [] := by
  intro env F a w next Q hn hsat hfresh hk
  have hd1 := ev_den hn (by rw [ho]; simp [Op.operands]) hx
  obtain ⟨b, xs, e1, e2, e3⟩ := box_of (e := e) (cs := cs) (H := [] ++ [(h, Res.box e cs)]) hsat (by simp [look_cons]) hd1
  have hsh : w.shape? b = some (e, xs.size) := by simp [World.shape?, e2]
  have hrun := Lib.run_from_unsafe (P := P) w ⟨b, off, none⟩ hs hd hu hsh (by have := e3.length; simp at this; rw [← this]; exact hlies)
  unfold Oper.wp
  rw [show (execOp a.eval o).run P w = .ok (.value (.pointer (some ⟨b, off, none⟩))) w by simp [execOp, ho, e1, hrun]]
  exact hk env F _ w (Turn.refl _ _ _ _ _) (e1 ▸ hd1)

theorem sliceData_ex {P : Program} {o : Oper} {x : Operand} {t : Nat} {a : Act} {w w' : World} {v : Value} (ho : o.op = .call { callee := .builtin .unsafeSliceData, args := #[x], argTypes := #[t] }) (hrun : (Builtin.unsafeSliceData_ #[t] o.type #[a.eval x]).run P w = .ok v w') :
    (execOp a.eval o).run P w = .ok (.value v) w' := by
  simp only [execOp, ho, resolve, invoke, builtin, Sem.run_bind, Sem.run_pure, Result.andThen_ok]
  simp only [List.map_toArray, List.map_cons, List.map_nil]
  rw [hrun]; rfl
theorem unsafeString_ex {P : Program} {o : Oper} {x y : Operand} {t t' : Nat} {a : Act} {w w' : World} {v : Value} (ho : o.op = .call { callee := .builtin .unsafeString, args := #[x, y], argTypes := #[t, t'] }) (hrun : (Builtin.unsafeString_ #[t, t'] o.type #[a.eval x, a.eval y]).run P w = .ok v w') :
    (execOp a.eval o).run P w = .ok (.value v) w' := by
  simp only [execOp, ho, resolve, invoke, builtin, Sem.run_bind, Sem.run_pure, Result.andThen_ok]
  simp only [List.map_toArray, List.map_cons, List.map_nil]
  rw [hrun]; rfl

theorem triple_sliceData {P : Program} {o : Oper} {fr : Fr} {n h z i len t : Nat} {c : Option Nat} {x : Operand}
    (ho : o.op = .call { callee := .builtin .unsafeSliceData, args := #[x], argTypes := #[t] }) (hx : ev fr x = some (.sv h z i len c)) (h0 : 0 < len) :
    Triple P o fr [] [] n n (.el h z i 0) [] := by
  refine triple_val fun env a w hn => ?_
  have hd1 := ev_den hn (by rw [ho]; simp [Op.operands, Call.operands]) hx
  obtain ⟨b, o1, m, C, p, cc, q1, q2, q3, q4, q5, q6, q7⟩ := den_sv.1 hd1
  have hpp := q7 (by omega)
  refine ⟨.pointer (some ⟨b, o1 + i * z, none⟩), ?_, ?_⟩
  · have hrun := Lib.run_unsafeSliceData_row (P := P) w #[t] o.type p len cc (by omega)
    rw [hpp] at hrun
    exact sliceData_ex ho (by rw [q2, hpp]; exact hrun)
  · simp only [Den]
    exact ⟨b, o1, m, C, q1, by simp⟩

theorem triple_sliceData_nil {P : Program} {o : Oper} {fr : Fr} {n t : Nat} {x : Operand}
    (ho : o.op = .call { callee := .builtin .unsafeSliceData, args := #[x], argTypes := #[t] }) (hx : ev fr x = some .nils) :
    Triple P o fr [] [] n n .nilp [] := by
  refine triple_val fun env a w hn => ?_
  have hd1 := ev_den hn (by rw [ho]; simp [Op.operands, Call.operands]) hx
  simp only [Den] at hd1
  refine ⟨.pointer none, ?_, by simp only [Den]⟩
  have hrun := Lib.run_unsafeSliceData_nil (P := P) w #[t] o.type 0 0
  exact sliceData_ex ho (by rw [hd1]; exact hrun)

theorem triple_unsafeString_nil {P : Program} {o : Oper} {fr : Fr} {n t t' : Nat} {x y : Operand}
    (ho : o.op = .call { callee := .builtin .unsafeString, args := #[x, y], argTypes := #[t, t'] }) (hx : ev fr x = some .nilp) (hy : ev fr y = some (.int .i64 0)) :
    Triple P o fr [] [] n n (.str ⟨#[]⟩) [] := by
  refine triple_val fun env a w hn => ?_
  have hd1 := ev_den hn (by rw [ho]; simp [Op.operands, Call.operands]) hx
  have hd2 := ev_den hn (by rw [ho]; simp [Op.operands, Call.operands]) hy
  simp only [Den] at hd1 hd2
  refine ⟨.string .empty, ?_, by simp only [Den]; rfl⟩
  have hrun := Lib.run_unsafeString_none (P := P) w t t' o.type none
  exact unsafeString_ex ho (by rw [hd1, hd2]; exact hrun)

theorem liesAt_byte {P : Program} {e : TypeId} (hc : P.cellsOf e = 1) (count off n : Nat) (hn : off + n ≤ count) : liesAt P P.depth e count off e n = true := by
  have hd : P.depth = (2 * (P.types.size + Made.depth) + 1) + 1 := rfl
  rw [hd]
  simp only [liesAt, Bool.or_eq_true]
  left
  rw [hd]
  simp [Go.rowAt, hc, hn, sameLayout, Nat.mod_one]

theorem run_unsafeString_at {P : Program} (w : World) (pt it ty e : TypeId) (hp : P.underlying pt = some (.pointer e)) (hc : P.cellsOf e = 1) (g off cells : Nat) (hsh : w.shape? g = some (e, cells)) (l : List UInt8) (h0 : l ≠ []) (hn : off + l.length ≤ cells)
    (h63 : l.length ≤ 9223372036854775807) (hcell : ∀ j x, l[j]? = some x → w.cell? ((⟨g, off, none⟩ : Addr).add j) = some (.int .u8 x.toNat)) :
    (Builtin.unsafeString_ #[pt, it] ty #[.pointer (some ⟨g, off, none⟩), .int .i64 l.length]).run P w = .ok (.string ⟨l.toArray⟩) (w.freeze ⟨g, off, none⟩ l.length) := by
  have hl : l.length ≠ 0 := by simpa using h0
  have hlb := Lib.run_loadBytes (P := P) w l ⟨g, off, none⟩ .empty hcell
  have hlies := liesAt_byte (P := P) hc (cells / P.cellsOf e) off l.length (by rw [hc]; simpa using hn)
  have h63' : ¬ (9223372036854775807 : Int) < (l.length : Int) := by omega
  have hdef : Builtin.unsafeString_ #[pt, it] ty #[.pointer (some ⟨g, off, none⟩), .int .i64 l.length] =
      (do
        let n ← asInt (.int .i64 l.length)
        if n < 0 then runtimePanic (.error "unsafe.String: len out of range")
        if n > IntKind.i64.max then unsupported (.unsafePointer "String: a length above the largest int")
        if n = 0 then pure (.string .empty)
        else if ← variablesAt ⟨g, off, none⟩ (← elemOf pt) n.toNat then do
          let s ← loadBytes ⟨g, off, none⟩ .empty n.toNat
          freeze ⟨g, off, none⟩ n.toNat
          pure (.string s)
        else unsupported (.unsafePointer "String: not so many bytes at ptr")) := rfl
  rw [hdef]
  have hmax : IntKind.i64.max = 9223372036854775807 := rfl
  have hneg : ¬ (l.length : Int) < 0 := by omega
  simp [asInt, asIntOf, hmax, h63', hneg, hl, variablesAt, hsh, elemOf, run_underlying hp, hlies, hlb]

theorem triple_unsafeString {P : Program} {o : Oper} {fr : Fr} {n h i e t t' k : Nat} {rc : Option Nat} {x y : Operand} {cs : List AV} {s : ByteArray}
    (ho : o.op = .call { callee := .builtin .unsafeString, args := #[x, y], argTypes := #[t, t'] }) (hx : ev fr x = some (.el h 1 i 0)) (hy : ev fr y = some (.int .i64 (k : Nat))) (hp : P.underlying t = some (.pointer e)) (hc : P.cellsOf e = 1)
    (hk : k = s.size) (h0 : 0 < k) (h63 : k ≤ 9223372036854775807) (hcs : (cs.drop i).take k = bytesA s) :
    Triple P o fr [] [(h, .row e 1 cs rc)] n n (.str s) [(h, .gone)] := by
  intro env F a w next Q hn hsat hfresh hkk
  have hd1 := ev_den hn (by rw [ho]; simp [Op.operands, Call.operands]) hx
  have hd2 := ev_den hn (by rw [ho]; simp [Op.operands, Call.operands]) hy
  simp only [Den] at hd1 hd2
  obtain ⟨b, p, len, cap, q1, q2⟩ := hd1
  have hlk : look ([(h, Res.row e 1 cs rc)] ++ []) h = some (.row e 1 cs rc) := by simp [look_cons]
  obtain ⟨v, hv, hs⟩ := hsat.sat hlk
  obtain ⟨b', o', m, C, xs, lo, hi, ys, tl, rw1⟩ := rowAt.1 hs
  have hval := rw1.val
  rw [q1] at hv
  cases hv
  simp only [Value.slice.injEq, Option.some.injEq, Addr.mk.injEq] at hval
  obtain ⟨⟨rfl, rfl, -⟩, rfl, rfl⟩ := hval
  have hsz : s.data.toList.length = k := by rw [hk]; rfl
  have hlen : i + k ≤ cs.length := by
    have := congrArg List.length hcs
    simp only [List.length_take, List.length_drop, bytesA, List.length_map, hsz] at this
    omega
  have hsh : w.shape? b = some (e, xs.size) := by simp [World.shape?, rw1.at_]
  have hrl := rw1.len
  have hrs := rw1.size
  have hcell : ∀ j x, s.data.toList[j]? = some x → w.cell? ((⟨b, p + i, none⟩ : Addr).add j) = some (.int .u8 x.toNat) := by
    intro j x hj
    have hjk : j < k := by rw [← hsz]; exact (List.getElem?_eq_some_iff.1 hj).1
    have h1 : cs[i + j]? = some (.int .u8 x.toNat) := by
      have h2 : ((cs.drop i).take k)[j]? = (bytesA s)[j]? := by rw [hcs]
      rw [List.getElem?_take, if_pos hjk, List.getElem?_drop] at h2
      rw [h2, bytesA, List.getElem?_map, hj]; rfl
    obtain ⟨y, r1, r2⟩ := rw1.cell h1
    simp only [Den] at r2
    rw [← r2, ← r1]
    congr 1
    unfold Addr.add
    split <;> simp_all [Nat.add_assoc]
  have hne : s.data.toList ≠ [] := by intro e; rw [e] at hsz; simp at hsz; omega
  have hrun := run_unsafeString_at (P := P) w t t' o.type e hp hc b (p + i) xs.size hsh s.data.toList hne (by rw [hsz]; omega) (by rw [hsz]; exact h63) hcell
  unfold Oper.wp
  rw [show (execOp a.eval o).run P w = .ok (.value (.string s)) (w.freeze ⟨b, p + i, none⟩ s.data.toList.length) by
    refine unsafeString_ex ho ?_
    rw [hsz] at hrun ⊢
    rw [q2, hd2, Nat.mul_one, Nat.add_zero]; exact hrun]
  refine hkk env (fun _ _ => False) _ _ ⟨Env.le.refl _, fun _ _ => rfl, ⟨?_, ?_⟩, ?_, ?_⟩ (by simp only [Den])
  · intro k0 r0 hl0
    obtain ⟨rfl, rfl⟩ := look_one hl0
    exact ⟨_, q1, fun _ h => h⟩
  · intro k0 r0 k1 r1 _ _ _ _ _ hf; exact hf.elim
  · intro k0 r0 x0 _ hx0; exact hx0.elim
  · have hfz : ∀ k0, (w.freeze ⟨b, p + i, none⟩ k0).os = w.os ∧ (w.freeze ⟨b, p + i, none⟩ k0).tape = w.tape ∧ (w.freeze ⟨b, p + i, none⟩ k0).output = w.output ∧ (w.freeze ⟨b, p + i, none⟩ k0).heap.size = w.heap.size ∧
        ∀ k1, k1 ≠ b → (w.freeze ⟨b, p + i, none⟩ k0).heap[k1]? = w.heap[k1]? := by
      intro k0
      unfold World.freeze
      split
      · exact ⟨rfl, rfl, rfl, rfl, fun _ _ => rfl⟩
      · refine ⟨rfl, rfl, rfl, by simp, fun k1 hk1 => ?_⟩
        simp only [Array.getElem?_modify]
        rw [if_neg (fun e => hk1 e.symm)]
    obtain ⟨f1, f2, f3, f4, f5⟩ := hfz s.data.toList.length
    refine ⟨f1, f2, f3, by omega, ?_⟩
    intro k1 _ hk1
    refine f5 k1 fun e1 => hk1 ⟨h, .row e 1 cs rc, by simp [look_cons], rfl, (rw1.foot k1).2 e1⟩

/-- bytealg.MakeNoZero: so many bytes, whatever they are. -/
def NoZeroFn (P : Program) (g : FuncId) (ps : Array TypeId) (t e : TypeId) : Prop :=
  P.underlying t = some (.slice e) ∧ ∃ fn, P.funcs[g]? = some fn ∧ (fn.name == "runtime.NumGoroutine") = false ∧ fn.body.isNone = true ∧ Extern.findNext fn = none ∧ Extern.find fn = some (Extern.BytealgMakeNoZero.makeNoZero ps #[t])

theorem triple_makeNoZero {P : Program} {o : Oper} {fr : Fr} {n g t e k : Nat} {ps : Array TypeId} (hf : NoZeroFn P g ps t e) (hcall : IsCall o fr g [.int .i64 (k : Nat)]) (hk : k ≤ 281474976710656) :
    Triple P o fr [] [] n (n + 1) (.sv n 1 0 k none) [(n, .row e 1 [] none)] := by
  intro env F a w next Q hneed hsat hfresh hkk
  have hn' := hfresh n (Nat.le_refl _) (by omega)
  obtain ⟨xs, hx, hrun⟩ := evs_call hneed hcall
  obtain ⟨ht, fn, f1, f2, f3, f4, f5⟩ := hf
  simp only [Dens, Den] at hx
  obtain ⟨x, xl, hxs, rfl, rfl⟩ := hx
  have hxe : xs = #[.int .i64 k] := by apply Array.ext'; simpa using hxs
  subst hxe
  obtain ⟨cs, h1, h2, h3⟩ := Lib.run_makeNoZero (P := P) w ps t e ht k hk
  unfold Oper.wp
  rw [hrun, run_callFunc_extern f1 f2 f3 f4 f5, h1]
  simp only [Result.andThen, Sem.run_pure, Oper.upon]
  refine hkk _ _ _ _ (Turn.row_new (w1 := w.drew.drew) (ys := []) (tl := cs.toList) (lo := 0) (hi := 0) (m := k) (C := cs.size) hn' ⟨rfl, rfl, rfl, rfl⟩ (by simp) (by simp) (by simp [Dens]) (.inr (Nat.le_refl _)) (fun k hk => by cases hk)) (sv_new h2 (fun k hk => by cases hk))

theorem triple_neq_same {P : Program} {o : Oper} {fr : Fr} {n h off t te u : Nat} {x y : Operand} {j : TypeInfo} (ho : o.op = .binOp .neq t x y u) (hx : ev fr x = some (.ptr h off)) (hy : ev fr y = some (.ptr h off)) (hp : P.underlying t = some (.pointer te)) (hj : P.info? te = some j) :
    Triple P o fr [] [] n n (.bool false) [] := by
  refine triple_val fun env a w hn => ?_
  have hd1 := ev_den hn (by rw [ho]; simp [Op.operands]) hx
  have hd2 := ev_den hn (by rw [ho]; simp [Op.operands]) hy
  simp only [Den] at hd1 hd2
  obtain ⟨b, h1, h2⟩ := hd1
  obtain ⟨b', h1', h2'⟩ := hd2
  rw [h1] at h1'
  cases h1'
  refine ⟨.bool false, ?_, by simp only [Den]⟩
  have hrun := Lib.run_neq_ptr_same (P := P) w ⟨b, off, none⟩ hp hj
  have hg := eqGuard_ok (P := P) (w := w) (op := .neq) (t := t) (x := x) (y := y) (a := a.eval x) (b := a.eval y) (by rw [h2]; simp) (by rw [h2']; simp)
  rw [h2, h2'] at hg
  simp only [execOp, ho, h2, h2']
  simp [hrun, hg]

/-- A contract, under other numbers, in a greater heap, with just what is said behind it. -/
theorem Ctr.lift {P : Program} {f : FuncId} {args : List AV} {pre post pre' R' : Heap} {n0 n1 N : Nat} {v : AV} (c : Ctr P f args [] pre n0 n1 v post) (σ : List Nat) (hcb : callB σ n0 N = true) (hex : allR pre exB = true) (hro : roB R' = true)
    (hsub : Sub (renH (sg σ N) pre) pre') (hd : domB pre' (renH (sg σ N) post) = true) : Ctr P f (renL (sg σ N) args) R' pre' N (N + (n1 - n0)) (renA (sg σ N) v) (renH (sg σ N) post) := by
  have c0 := c.ren (N := N) σ hcb
  have hnd : nodupB σ = true ∧ σ.all (fun k => Nat.blt k N) = true := by
    simp only [callB, Bool.and_eq_true] at hcb; exact ⟨hcb.2.1, hcb.2.2⟩
  have hinj := sg_inj hnd.1 hnd.2
  have c1 := c0.frame (R' := R') (pre' := pre') (fun k q hl => by
      have := (roB_all R') ▸ hro
      have := List.all_eq_true.1 this _ (look_mem hl)
      simpa using this)
    (fun k q hl => by
      obtain ⟨h, r, rfl, h1, rfl⟩ := look_renH_of hinj hl
      rw [excl_ren]
      have := (allR_eq pre exB) ▸ hex
      exact List.all_eq_true.1 this _ (look_mem h1)) (fun k q hl => by simp [renH, lookN] at hl)
    (fun k q hl => by rw [look_append, hsub k q hl]; rfl)
  exact c1.weak (fun k q hl => .inl (by rw [look_append, hl]; rfl)) hd

theorem sg10 (h n : Nat) : sg [h] n 0 = h := rfl
theorem sg11 (h n : Nat) : sg [h] n 1 = n := rfl
theorem sg20 (h r n : Nat) : sg [h, r] n 0 = h := rfl
theorem sg21 (h r n : Nat) : sg [h, r] n 1 = r := rfl
theorem sg22 (h r n : Nat) : sg [h, r] n 2 = n := rfl
theorem callB1 {h N : Nat} (hh : Nat.blt h N = true) : callB [h] 1 N = true := by simp [callB, nodupB, hh]
theorem callB2 {h r N : Nat} (hh : Nat.blt h N = true) (hr : Nat.blt r N = true) (hne : Nat.beq h r = false) : callB [h, r] 2 N = true := by simp [callB, nodupB, hh, hr, hne]

/-- Bytes out of cells. -/
def u8L (l : List AV) : Option (List UInt8) := List.rec (motive := fun _ => Option (List UInt8)) (some []) (fun v _ ih => match v, ih with
  | .int .u8 (.ofNat n), some l => match Nat.blt n 256 with
    | true => some (UInt8.ofNat n :: l)
    | false => none
  | _, _ => none) l
theorem u8L_ok : ∀ {l : List AV} {s : List UInt8}, u8L l = some s → l = s.map fun b => AV.int .u8 b.toNat
  | [], s, h => by cases h; rfl
  | v :: l, s, h => by
    simp only [u8L] at h
    split at h
    · rename_i n l' hl
      split at h
      · rename_i hb
        cases h
        have hb : n < 256 := Nat.le_of_ble_eq_true hb
        rw [u8L_ok hl]
        simp [Nat.mod_eq_of_lt hb]
      · cases h
    · cases h
theorem u8L_bare {l : List AV} {s : List UInt8} (h : u8L l = some s) : l.all bareA = true := by
  rw [u8L_ok h]; simp [bareA]

structure BldSpec (P : Program) (fc fs fg e8 : Nat) (ls : List (Nat × Nat)) : Prop where
  fresh : ∀ {e : Nat} {rest : List AV}, rest.all bareA = true → (e, rest.length) ∈ ls → Ctr P fc [.ptr 0 0] [] [(0, .box e (.nilp :: .nils :: rest))] 1 1 (.tup []) [(0, .box e (.ptr 0 0 :: .nils :: rest))]
  used : ∀ {h n e : Nat} {buf : AV} {rest : List AV}, Nat.blt h n = true → okL n (buf :: rest) = true → Ctr P fc [.ptr h 0] [] [(h, .box e (.ptr h 0 :: buf :: rest))] n n (.tup []) [(h, .box e (.ptr h 0 :: buf :: rest))]
  row : ∀ {e i k : Nat} {rc : Option Nat} {rest cs : List AV} {s : ByteArray}, rest.all bareA = true → cs.all bareA = true → k = s.size → 0 < k → k ≤ 9223372036854775807 → (cs.drop i).take k = bytesA s →
    Ctr P fs [.ptr 0 0] [] [(0, .box e (.ptr 0 0 :: .sv 1 1 i k none :: rest)), (1, .row e8 1 cs rc)] 2 2 (.str s) [(0, .box e (.ptr 0 0 :: .sv 1 1 i k none :: rest)), (1, .gone)]
  nil : ∀ {e : Nat} {ad : AV} {rest : List AV}, rest.all bareA = true → okA 1 ad = true → Ctr P fs [.ptr 0 0] [] [(0, .box e (ad :: .nils :: rest))] 1 1 (.str ⟨#[]⟩) [(0, .box e (ad :: .nils :: rest))]
  grow : ∀ {e k : Nat} {rest : List AV}, rest.all bareA = true → k ≤ 281474976710656 → Ctr P fg [.ptr 0 0, .int .i64 k] [] [(0, .box e (.ptr 0 0 :: .nils :: rest))] 1 2 (.tup []) [(0, .box e (.ptr 0 0 :: .sv 1 1 0 0 none :: rest)), (1, .row e8 1 [] none)]

def memP (e k : Nat) (ls : List (Nat × Nat)) : Bool := List.rec (motive := fun _ => Bool) false (fun p _ ih => Bool.rec ih true (Nat.beq p.1 e && Nat.beq p.2 k)) ls
theorem memP_ok {e k : Nat} : ∀ {ls : List (Nat × Nat)}, memP e k ls = true → (e, k) ∈ ls
  | [], h => by cases h
  | (a, b) :: ls, h => by
    change (Bool.rec (memP e k ls) true (Nat.beq a e && Nat.beq b k) : Bool) = true at h
    cases hb : (Nat.beq a e && Nat.beq b k) with
    | true =>
      simp only [Bool.and_eq_true] at hb
      have h1 := Nat.eq_of_beq_eq_true hb.1
      have h2 := Nat.eq_of_beq_eq_true hb.2
      subst h1; subst h2; exact List.mem_cons_self
    | false => rw [hb] at h; exact List.mem_cons_of_mem _ (memP_ok h)

def ccOv (fc : Nat) (ls : List (Nat × Nat)) : Ov := fun g vs pre R n => match Nat.beq g fc with
  | false => none
  | true => match vs with
    | [.ptr h 0] => match look pre h with
      | some (.box e (.nilp :: .nils :: rest)) => match memP e (lenR rest) ls && (allR rest bareA && (Nat.blt h n && (roB R && domB pre [(h, .gone)]))) with
        | true => some (.tup [], [(h, .box e (.ptr h 0 :: .nils :: rest))], n)
        | false => none
      | some (.box e (.ptr k 0 :: buf :: rest)) => match Nat.beq k h && (okL n (buf :: rest) && (Nat.blt h n && roB R)) with
        | true => some (.tup [], pre, n)
        | false => none
      | _ => none
    | _ => none

def stOv (fs e8 : Nat) : Ov := fun g vs pre R n => match Nat.beq g fs with
  | false => none
  | true => match vs with
    | [.ptr h 0] => match look pre h with
      | some (.box e (.ptr k 0 :: .sv r 1 i m none :: rest)) => match look pre r with
        | some (.row e' 1 cs rc) => match u8L (takeR m (dropR i cs)) with
          | some s => match Nat.beq k h && (Nat.beq e' e8 && (Nat.beq (lenR s) m && (Nat.blt 0 m && (Nat.ble m 9223372036854775807 && (allR rest bareA && (allR cs bareA && (Nat.blt h n && (Nat.blt r n && (!(Nat.beq h r) && (roB R && domB pre [(h, .gone), (r, .gone)])))))))))) with
            | true => some (.str ⟨⟨s⟩⟩, [(h, .box e (.ptr h 0 :: .sv r 1 i m none :: rest)), (r, .gone)], n)
            | false => none
          | none => none
        | _ => none
      | some (.box e (ad :: .nils :: rest)) => match allR rest bareA && (Nat.blt h n && (roB R && domB pre [(h, .gone)])) with
        | true => match ad with
          | .nilp => some (.str ⟨#[]⟩, [(h, .box e (.nilp :: .nils :: rest))], n)
          | .ptr k 0 => match Nat.beq k h with
            | true => some (.str ⟨#[]⟩, [(h, .box e (.ptr h 0 :: .nils :: rest))], n)
            | false => none
          | _ => none
        | false => none
      | _ => none
    | _ => none

def grOv (fg e8 : Nat) : Ov := fun g vs pre R n => match Nat.beq g fg with
  | false => none
  | true => match vs with
    | [.ptr h 0, .int .i64 (.ofNat m)] => match look pre h with
      | some (.box e (.ptr k 0 :: .nils :: rest)) => match Nat.beq k h && (Nat.ble m 281474976710656 && (allR rest bareA && (Nat.blt h n && (roB R && domB pre [(h, .gone)])))) with
        | true => some (.tup [], [(h, .box e (.ptr h 0 :: .sv n 1 0 0 none :: rest)), (n, .row e8 1 [] none)], Nat.add n 1)
        | false => none
      | _ => none
    | _ => none

theorem ccOv_ok {P : Program} {fc fs fg e8 : Nat} {ls : List (Nat × Nat)} (hs : BldSpec P fc fs fg e8 ls) : OvOK P (ccOv fc ls) := by
  intro g vs pre R n v post n' h
  unfold ccOv at h
  split at h
  · cases h
  · rename_i hg
    have hg := Nat.eq_of_beq_eq_true hg
    subst hg
    split at h
    · rename_i hd
      split at h
      · rename_i e rest hl
        split at h
        · rename_i hb
          simp only [Bool.and_eq_true, allR_eq, lenR_eq] at hb
          obtain ⟨b1, b2, b3, b4, b5⟩ := hb
          cases h
          have c := (hs.fresh b2 (memP_ok b1)).lift (N := n) [hd] (callB1 b3) rfl b4 (pre' := pre) (by
            intro k q hk
            simp only [renH, renR, renL, renA, bare_ren b2, look_cons, lookN, sg, nth] at hk
            split at hk
            · rename_i e1; change hd = k at e1; subst e1; rw [hl]; simpa using hk
            · cases hk) b5
          simpa only [renL, renA, renH, renR, bare_ren b2, Nat.sub_self, Nat.add_zero, sg10, sg11, sg20, sg21] using c
        · cases h
      · rename_i e k buf rest hl
        split at h
        · rename_i hb
          simp only [Bool.and_eq_true] at hb
          obtain ⟨b1, b2, b3, b4⟩ := hb
          have b1 := Nat.eq_of_beq_eq_true b1
          subst b1
          cases h
          have c := (hs.used (e := e) b3 b2).frame (R' := R) (pre' := pre) (fun k q hl => by
              have := (roB_all R) ▸ b4
              have := List.all_eq_true.1 this _ (look_mem hl)
              simpa using this)
            (fun k q hl => by
              simp only [look_cons, lookN] at hl
              split at hl
              · cases hl; rfl
              · cases hl) (fun k q hl => by simp [lookN] at hl)
            (fun k q hk => by
              rw [look_append]
              simp only [look_cons, lookN] at hk
              split at hk
              · rename_i e; subst e; rw [hl]; simpa using hk
              · cases hk)
          refine c.weak (fun c q hk => .inl ?_) ?_
          · rw [look_append]
            simp only [look_cons, lookN]
            split
            · rename_i e; subst e; rw [hl] at hk; rw [← hk]; rfl
            · simpa using hk
          · unfold domB
            rw [List.all_eq_true]
            intro p hp
            rw [List.any_eq_true]
            exact ⟨p, hp, Nat.beq_refl _⟩
        · cases h
      · cases h
    · cases h

theorem stOv_ok {P : Program} {fc fs fg e8 : Nat} {ls : List (Nat × Nat)} (hs : BldSpec P fc fs fg e8 ls) : OvOK P (stOv fs e8) := by
  intro g vs pre R n v post n' h
  unfold stOv at h
  split at h
  · cases h
  · rename_i hg
    have hg := Nat.eq_of_beq_eq_true hg
    subst hg
    split at h
    · rename_i hd
      split at h
      · rename_i e k r i m rest hl
        split at h
        · rename_i e' cs rc hl2
          split at h
          · rename_i s hu
            split at h
            · rename_i hb
              simp only [Bool.and_eq_true, allR_eq, lenR_eq, Bool.not_eq_true'] at hb
              obtain ⟨b1, b2, b3, b4, b5, b6, b7, b8, b9, b10, b11, b12⟩ := hb
              have b1 := Nat.eq_of_beq_eq_true b1
              have b2 := Nat.eq_of_beq_eq_true b2
              have b3 := Nat.eq_of_beq_eq_true b3
              have b4 : 0 < m := Nat.le_of_ble_eq_true b4
              have b5 := Nat.le_of_ble_eq_true b5
              subst b1; subst b2
              cases h
              rw [takeR_eq, dropR_eq] at hu
              have c := (hs.row (e := e) (rc := rc) (s := ⟨⟨s⟩⟩) b6 b7 (by rw [← b3]; rfl) b4 b5 (u8L_ok hu)).lift (N := n) [k, r] (callB2 b8 b9 b10) rfl b11 (pre' := pre) (by
                intro c q hk
                simp only [renH, renR, renL, renA, bare_ren b6, bare_ren b7, look_cons, lookN, sg, nth] at hk
                split at hk
                · rename_i e1; change k = c at e1; subst e1; rw [hl]; simpa using hk
                · split at hk
                  · rename_i e1; change r = c at e1; subst e1; rw [hl2]; simpa using hk
                  · cases hk) b12
              simpa only [renL, renA, renH, renR, bare_ren b6, Nat.sub_self, Nat.add_zero, sg10, sg11, sg20, sg21] using c
            · cases h
          · cases h
        · cases h
      · rename_i e ad rest hl
        split at h
        · rename_i hb
          simp only [Bool.and_eq_true, allR_eq] at hb
          obtain ⟨b1, b2, b3, b4⟩ := hb
          split at h
          · cases h
            have c := (hs.nil (e := e) (ad := .nilp) b1 rfl).lift (N := n) [hd] (callB1 b2) rfl b3 (pre' := pre) (by
              intro k q hk
              simp only [renH, renR, renL, renA, bare_ren b1, look_cons, lookN, sg, nth] at hk
              split at hk
              · rename_i e1; change hd = k at e1; subst e1; rw [hl]; simpa using hk
              · cases hk) b4
            simpa only [renL, renA, renH, renR, bare_ren b1, Nat.sub_self, Nat.add_zero, sg10, sg11, sg20, sg21] using c
          · rename_i k0
            split at h
            · rename_i hk0
              have hk0 := Nat.eq_of_beq_eq_true hk0
              subst hk0
              cases h
              have c := (hs.nil (e := e) (ad := .ptr 0 0) b1 rfl).lift (N := n) [k0] (callB1 b2) rfl b3 (pre' := pre) (by
                intro k q hk
                simp only [renH, renR, renL, renA, bare_ren b1, look_cons, lookN, sg, nth] at hk
                split at hk
                · rename_i e1; change k0 = k at e1; subst e1; rw [hl]; simpa using hk
                · cases hk) b4
              simpa only [renL, renA, renH, renR, bare_ren b1, Nat.sub_self, Nat.add_zero, sg10, sg11, sg20, sg21] using c
            · cases h
          · cases h
        · cases h
      · cases h
    · cases h

theorem grOv_ok {P : Program} {fc fs fg e8 : Nat} {ls : List (Nat × Nat)} (hs : BldSpec P fc fs fg e8 ls) : OvOK P (grOv fg e8) := by
  intro g vs pre R n v post n' h
  unfold grOv at h
  split at h
  · cases h
  · rename_i hg
    have hg := Nat.eq_of_beq_eq_true hg
    subst hg
    split at h
    · rename_i hd m
      split at h
      · rename_i e k rest hl
        split at h
        · rename_i hb
          simp only [Bool.and_eq_true, allR_eq] at hb
          obtain ⟨b1, b2, b3, b4, b5, b6⟩ := hb
          have b1 := Nat.eq_of_beq_eq_true b1
          have b2 := Nat.le_of_ble_eq_true b2
          subst b1
          cases h
          have c := (hs.grow (e := e) b3 b2).lift (N := n) [k] (callB1 b4) rfl b5 (pre' := pre) (by
            intro c q hk
            simp only [renH, renR, renL, renA, bare_ren b3, look_cons, lookN, sg, nth] at hk
            split at hk
            · rename_i e1; change k = c at e1; subst e1; rw [hl]; simpa using hk
            · cases hk) (by
              unfold domB at b6 ⊢
              rw [List.all_eq_true] at b6 ⊢
              intro p hp
              have := b6 p hp
              simp only [List.any_cons, List.any_nil, Bool.or_false] at this
              simp only [renH, List.any_cons, Bool.or_eq_true]
              exact .inl this)
          simp only [renL, renA, renH, renR, bare_ren b3, sg10, sg11] at c; exact c
        · cases h
      · cases h
    · cases h

/-- A loop: I says of each a what is known at a round's head; every round lowers μ. -/
theorem loopR {P : Program} {T : Tab} (hT : TabOK P T) (hm : P.follows .mixedOrders = true) {pu : Pure} (hp : PureOK P pu) {body : Code} {Q : Exit → St → Prop} {fr : Fr} {H : Heap} {n sz : Nat} {log : List (List Nat × List Nat)} {b : Nat} {α : Type}
    (I : α → Fr × Heap) (μ : α → Nat) (N : Nat) (a0 : α) (σ : List (Nat × Nat)) (h0 : Incl σ N (I a0).1 (I a0).2 ⟨fr, H, n, sz, [], log, b⟩)
    (hs : ∀ a, vcCode (AskR P pu) T body (loopQ I μ N a Q) ⟨(I a).1, (I a).2, N, sz, [], [], b⟩) : AtLoop P none body Q ⟨fr, H, n, sz, [], log, b⟩ := by
  refine ⟨?_⟩
  intro hst X Y w0 env0 ro Qc env F a w hro hb hbase hs0 hsi hq
  refine wpIn_loop_ghost (fun k a' w' => ∃ al, μ al = k ∧ ∃ env' F', SatS env' ⟨(I al).1, (I al).2, N, sz, [], [], b⟩ F' a' w' ∧ Since X Y w0 (I al).2 F' w' ∧ (∀ h, h < b → env' h = env0 h) ∧ b ≤ N) (μ a0) ?_ ?_
  · obtain ⟨env', F', g1, g2, g3, g4⟩ := h0.sats (log := []) hs0 hsi hbase
    exact ⟨a0, rfl, env', F', g1, g2, g3, g4⟩
  · rintro k a' w' ⟨al, rfl, env', F', g1, g2, g3, g4⟩
    refine vcCode_sound' hT hm (askROK P hp) body (hs al) hst X Y w0 env0 ro _ env' F' a' w' hro g4 g3 g1 g2 ?_
    intro e s' env2 F2 a2 w2 hQ k1 k2 k3 k4 k5 k6
    cases e with
    | normal =>
      obtain ⟨al', σ', hlt, hin⟩ := hQ.ex
      obtain ⟨env3, F3, q1, q2, q3, q4⟩ := hin.sats (log := []) k5 k6 k4
      simp only at k1 k2
      rw [hin.df, k1, k2] at q1
      rw [k1] at q3 q4
      exact ⟨μ al', hlt, al', rfl, env3, F3, q1, q2, q3, q4⟩
    | _ => exact hq _ _ _ _ _ _ hQ k1 k2 k3 k4 k5 k6

/-- The same state, the same handles: what is known is a part of what holds. -/
theorem Incl.same {N : Nat} {fr : Fr} {H : Heap} {s : St} (hv : ∀ p ∈ fr, look s.fr p.1 = some p.2) (hh : ∀ p ∈ H, look s.H p.1 = some p.2) (h1 : okFr N fr = true) (h2 : okH N H = true) (h3 : nodupB (H.map (·.1)) = true) (h4 : s.b ≤ N) (h5 : s.df = []) : Incl [] N fr H s := by
  have hid : ∀ k, asg [] k = k := fun _ => rfl
  have key : ∀ l : Heap, (∀ p ∈ l, look s.H p.1 = some p.2) → HasAll s.H (asg []) l := by
    intro l
    induction l with
    | nil => intro _; trivial
    | cons p l ih =>
      obtain ⟨k, r0⟩ := p
      intro h
      refine ⟨?_, ih fun p hp => h p (List.mem_cons_of_mem _ hp)⟩
      rw [hid, renR_id hid]
      exact h _ List.mem_cons_self
  have keyF : ∀ l : Fr, (∀ p ∈ l, look s.fr p.1 = some p.2) → HasFr (asg []) s.fr l := by
    intro l
    induction l with
    | nil => intro _; trivial
    | cons p l ih =>
      obtain ⟨k, r0⟩ := p
      intro h
      refine ⟨?_, ih fun p hp => h p (List.mem_cons_of_mem _ hp)⟩
      rw [renA_id hid]
      exact h _ List.mem_cons_self
  refine ⟨keyF fr hv, key H hh, ?_, h5⟩
  have hm : (H.map fun p => asg [] p.1) = H.map (·.1) := by simp [hid]
  simp only [h1, h2, hm, h3, Nat.ble_eq_true_of_le h4, Bool.true_and, List.all_nil]

/-- Functions whose values are known, one table behind the other. -/
def orP (p q : Pure) : Pure := fun g vs => match p g vs with
  | some v => some v
  | none => q g vs
theorem orP_ok {P : Program} {p q : Pure} (hp : PureOK P p) (hq : PureOK P q) : PureOK P (orP p q) := by
  intro g vs v h
  unfold orP at h
  split at h
  · rename_i u hu; cases h; exact hp hu
  · exact hq h

/-- A contract of a function that is handed texts and numbers, and makes no more of them. -/
theorem Ctr.anyN {P : Program} {g : FuncId} {args : List AV} {v : AV} (c : Ctr P g args [] [] 0 0 v []) (ha : args.all bareA = true) (hv : okA 0 v = true) (n : Nat) : Ctr P g args [] [] n n v [] := by
  have c1 := c.ren (N := n) [] (by rfl)
  rw [bare_ren ha] at c1
  have : renA (sg [] n) v = v := by
    have key : ∀ {π : Nat → Nat}, (∀ v, okA 0 v = true → renA π v = v) ∧ True := by
      intro π
      refine ⟨?_, trivial⟩
      intro v hv
      exact okA0_ren v hv
    exact key.1 v hv
  rw [this] at c1
  simpa [renH] using c1
where
  okA0_ren {π : Nat → Nat} : ∀ v : AV, okA 0 v = true → renA π v = v
    | .bool _, _ | .int _ _, _ | .str _, _ | .nilp, _ | .nils, _ | .nilm, _ | .nilf, _ | .nili, _ | .raw _, _ => by simp [renA]
    | .hd k, h | .sl k _, h | .ptr k _, h | .el k _ _ _, h | .slc k _ _ _, h | .sv k _ _ _ _, h | .yld k, h => by simp [okA_hd, okA_sl, okA_ptr, okA_el, okA_slc, okA_sv, okA_yld, Nat.blt] at h
    | .agg l, h => by rw [okA_agg] at h; simp [renA, okL0_ren l h]
    | .tup l, h => by rw [okA_tup] at h; simp [renA, okL0_ren l h]
    | .iface _ v, h => by rw [okA_iface] at h; simp [renA, okA0_ren v h]
    | .fn _ l m, h => by rw [okA_fn, Bool.and_eq_true] at h; simp [renA, okL0_ren l h.1, okL0_ren m h.2]
  okL0_ren {π : Nat → Nat} : ∀ l : List AV, okL 0 l = true → renL π l = l
    | [], _ => by simp [renL]
    | v :: l, h => by rw [okL_cons, Bool.and_eq_true] at h; simp [renL, okA0_ren v h.1, okL0_ren l h.2]

end
end Go.SX
