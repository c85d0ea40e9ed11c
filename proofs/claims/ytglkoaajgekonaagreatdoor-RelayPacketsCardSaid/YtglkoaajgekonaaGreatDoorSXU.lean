/- SX, part U: what strings.Builder does to memory: unsafe pointers, a row's bytes as a text, room that is asked for. -/
import Derived.Test.YtglkoaajgekonaaGreatDoorSXS
import Derived.Lib.Builder
import Derived.Lib.UnsafeStr
import Derived.Lib.MakeNoZero
namespace Go.SX
noncomputable section
theorem box_of {env : Env} {H : Heap} {F : Foot} {w : World} {h e off : Nat} {cs : List AV} {x : Value} (hs : SatH env H F w) (hl : look H h = some (.box e cs)) (hd : Den env (.ptr h off) x) :
  ∃ b xs, x = .pointer (some ⟨b, off, none⟩) ∧ w.heap[b]? = some (.cells xs e (0, 0)) ∧ Dens env cs xs.toList := by
 simp only [Den] at hd
 obtain ⟨b, h1, h2⟩ := hd
 obtain ⟨v, hv, b', xs, e1, e2, e3, e4⟩ := hs.sat hl
 rw [h1] at hv
 cases hv
 simp only [Value.pointer.injEq, Option.some.injEq, Addr.mk.injEq, and_true] at e1
 subst e1
 exact ⟨b, xs, h2, e3, e4⟩
theorem triple_to_unsafe {P : Program} {o : Oper} {fr : Fr} {n h off e s d t : Nat} {x : Operand} {cs : List AV} {j : TypeInfo}
  (ho : o.op = .convert s d x) (hx : ev fr x = some (.ptr h off)) (hs : P.underlying s = some (.pointer t)) (hd : P.underlying d = some .unsafePointer) (ht : P.info? t = some j) (hj : j.size ≠ 0) (hlt : off < cs.length) :
  Triple P o fr [(h, .box e cs)] [] n n (.ptr h off) [] := by
 intro env F a w next Q hn hsat hfresh hk
 have hd1 := ev_den hn (by rw [ho]; simp [Op.operands]) hx
 obtain ⟨b, xs, e1, e2, e3⟩ := box_of (e := e) (cs := cs) (H := [] ++ [(h, Res.box e cs)]) hsat (by simp [look_cons]) hd1
 have hsh : w.shape? b = some (e, xs.size) := by simp [World.shape?, e2]
 have hrun := Lib.run_to_unsafe (P := P) w ⟨b, off, none⟩ hs hd ht hj hsh (by have := e3.length; simp at this; simp only; omega)
 unfold Oper.wp
 rw [show (execOp a.eval o).run P w = .ok (.value (.pointer (some ⟨b, off, none⟩))) w by simp [execOp, ho, e1, hrun]]
 exact hk env F _ w (Turn.refl _ _ _ _ _) (e1 ▸ hd1)
theorem triple_from_unsafe {P : Program} {o : Oper} {fr : Fr} {n h off e s d u : Nat} {x : Operand} {cs : List AV} {j : TypeInfo}
  (ho : o.op = .convert s d x) (hx : ev fr x = some (.ptr h off)) (hs : P.underlying s = some .unsafePointer) (hd : P.underlying d = some (.pointer u)) (hu : P.info? u = some j) (hlies : liesAt P P.depth e (cs.length / P.cellsOf e) off u 1 = true) :
  Triple P o fr [(h, .box e cs)] [] n n (.ptr h off) [] := by
 intro env F a w next Q hn hsat hfresh hk
 have hd1 := ev_den hn (by rw [ho]; simp [Op.operands]) hx
 obtain ⟨b, xs, e1, e2, e3⟩ := box_of (e := e) (cs := cs) (H := [] ++ [(h, Res.box e cs)]) hsat (by simp [look_cons]) hd1
 have hsh : w.shape? b = some (e, xs.size) := by simp [World.shape?, e2]
 have hrun := Lib.run_from_unsafe (P := P) w ⟨b, off, none⟩ hs hd hu hsh (by have := e3.length; simp at this; rw [← this]; exact hlies)
 unfold Oper.wp
 rw [show (execOp a.eval o).run P w = .ok (.value (.pointer (some ⟨b, off, none⟩))) w by simp [execOp, ho, e1, hrun]]
 exact hk env F _ w (Turn.refl _ _ _ _ _) (e1 ▸ hd1)
theorem sliceData_ex {P : Program} {o : Oper} {x : Operand} {t : Nat} {a : Act} {w w' : World} {v : Value} (ho : o.op = .call { callee := .builtin .unsafeSliceData, args := #[x], argTypes := #[t] }) (hrun : (Builtin.unsafeSliceData_ #[t] o.type #[a.eval x]).run P w = .ok v w') :
  (execOp a.eval o).run P w = .ok (.value v) w' := by
 simp only [execOp, ho, resolve, invoke, builtin, Sem.run_bind, Sem.run_pure, Result.andThen_ok]
 simp only [List.map_toArray, List.map_cons, List.map_nil]
 rw [hrun]; rfl
theorem unsafeString_ex {P : Program} {o : Oper} {x y : Operand} {t t' : Nat} {a : Act} {w w' : World} {v : Value} (ho : o.op = .call { callee := .builtin .unsafeString, args := #[x, y], argTypes := #[t, t'] }) (hrun : (Builtin.unsafeString_ #[t, t'] o.type #[a.eval x, a.eval y]).run P w = .ok v w') :
  (execOp a.eval o).run P w = .ok (.value v) w' := by
 simp only [execOp, ho, resolve, invoke, builtin, Sem.run_bind, Sem.run_pure, Result.andThen_ok]
 simp only [List.map_toArray, List.map_cons, List.map_nil]
 rw [hrun]; rfl
theorem triple_sliceData {P : Program} {o : Oper} {fr : Fr} {n h z i len t : Nat} {c : Option Nat} {x : Operand}
  (ho : o.op = .call { callee := .builtin .unsafeSliceData, args := #[x], argTypes := #[t] }) (hx : ev fr x = some (.sv h z i len c)) (h0 : 0 < len) :
  Triple P o fr [] [] n n (.el h z i 0) [] := by
 refine triple_val fun env a w hn => ?_
 have hd1 := ev_den hn (by rw [ho]; simp [Op.operands, Call.operands]) hx
 obtain ⟨b, o1, m, C, p, cc, q1, q2, q3, q4, q5, q6, q7⟩ := den_sv.1 hd1
 have hpp := q7 (by omega)
 refine ⟨.pointer (some ⟨b, o1 + i * z, none⟩), ?_, ?_⟩
 ·have hrun := Lib.run_unsafeSliceData_row (P := P) w #[t] o.type p len cc (by omega)
  rw [hpp] at hrun
  exact sliceData_ex ho (by rw [q2, hpp]; exact hrun)
 ·simp only [Den]
  exact ⟨b, o1, m, C, q1, by simp⟩
theorem triple_sliceData_nil {P : Program} {o : Oper} {fr : Fr} {n t : Nat} {x : Operand}
  (ho : o.op = .call { callee := .builtin .unsafeSliceData, args := #[x], argTypes := #[t] }) (hx : ev fr x = some .nils) :
  Triple P o fr [] [] n n .nilp [] := by
 refine triple_val fun env a w hn => ?_
 have hd1 := ev_den hn (by rw [ho]; simp [Op.operands, Call.operands]) hx
 simp only [Den] at hd1
 refine ⟨.pointer none, ?_, by simp only [Den]⟩
 have hrun := Lib.run_unsafeSliceData_nil (P := P) w #[t] o.type 0 0
 exact sliceData_ex ho (by rw [hd1]; exact hrun)
theorem triple_unsafeString_nil {P : Program} {o : Oper} {fr : Fr} {n t t' : Nat} {x y : Operand}
  (ho : o.op = .call { callee := .builtin .unsafeString, args := #[x, y], argTypes := #[t, t'] }) (hx : ev fr x = some .nilp) (hy : ev fr y = some (.int .i64 0)) :
  Triple P o fr [] [] n n (.str ⟨#[]⟩) [] := by
 refine triple_val fun env a w hn => ?_
 have hd1 := ev_den hn (by rw [ho]; simp [Op.operands, Call.operands]) hx
 have hd2 := ev_den hn (by rw [ho]; simp [Op.operands, Call.operands]) hy
 simp only [Den] at hd1 hd2
 refine ⟨.string .empty, ?_, by simp only [Den]; rfl⟩
 have hrun := Lib.run_unsafeString_none (P := P) w t t' o.type none
 exact unsafeString_ex ho (by rw [hd1, hd2]; exact hrun)
theorem liesAt_byte {P : Program} {e : TypeId} (hc : P.cellsOf e = 1) (count off n : Nat) (hn : off + n ≤ count) : liesAt P P.depth e count off e n = true := by
 have hd : P.depth = (2 * (P.types.size + Made.depth) + 1) + 1 := rfl
 rw [hd]
 simp only [liesAt, Bool.or_eq_true]
 left
 rw [hd]
 simp [Go.rowAt, hc, hn, sameLayout, Nat.mod_one]
theorem run_unsafeString_at {P : Program} (w : World) (pt it ty e : TypeId) (hp : P.underlying pt = some (.pointer e)) (hc : P.cellsOf e = 1) (g off cells : Nat) (hsh : w.shape? g = some (e, cells)) (l : List UInt8) (h0 : l ≠ []) (hn : off + l.length ≤ cells)
  (h63 : l.length ≤ 9223372036854775807) (hcell : ∀ j x, l[j]? = some x → w.cell? ((⟨g, off, none⟩ : Addr).add j) = some (.int .u8 x.toNat)) :
  (Builtin.unsafeString_ #[pt, it] ty #[.pointer (some ⟨g, off, none⟩), .int .i64 l.length]).run P w = .ok (.string ⟨l.toArray⟩) (w.freeze ⟨g, off, none⟩ l.length) := by
 have hl : l.length ≠ 0 := by simpa using h0
 have hlb := Lib.run_loadBytes (P := P) w l ⟨g, off, none⟩ .empty hcell
 have hlies := liesAt_byte (P := P) hc (cells / P.cellsOf e) off l.length (by rw [hc]; simpa using hn)
 have h63' : ¬ (9223372036854775807 : Int) < (l.length : Int) := by omega
 have hdef : Builtin.unsafeString_ #[pt, it] ty #[.pointer (some ⟨g, off, none⟩), .int .i64 l.length] =
   (do
    let n ← asInt (.int .i64 l.length)
    if n < 0 then runtimePanic (.error "unsafe.String: len out of range")
    if n > IntKind.i64.max then unsupported (.unsafePointer "String: a length above the largest int")
    if n = 0 then pure (.string .empty)
    else if ← variablesAt ⟨g, off, none⟩ (← elemOf pt) n.toNat then do
     let s ← loadBytes ⟨g, off, none⟩ .empty n.toNat
     freeze ⟨g, off, none⟩ n.toNat
     pure (.string s)
    else unsupported (.unsafePointer "String: not so many bytes at ptr")) := rfl
 rw [hdef]
 have hmax : IntKind.i64.max = 9223372036854775807 := rfl
 have hneg : ¬ (l.length : Int) < 0 := by omega
 simp [asInt, asIntOf, hmax, h63', hneg, hl, variablesAt, hsh, elemOf, run_underlying hp, hlies, hlb]
theorem triple_unsafeString {P : Program} {o : Oper} {fr : Fr} {n h i e t t' k : Nat} {rc : Option Nat} {x y : Operand} {cs : List AV} {s : ByteArray}
  (ho : o.op = .call { callee := .builtin .unsafeString, args := #[x, y], argTypes := #[t, t'] }) (hx : ev fr x = some (.el h 1 i 0)) (hy : ev fr y = some (.int .i64 (k : Nat))) (hp : P.underlying t = some (.pointer e)) (hc : P.cellsOf e = 1)
  (hk : k = s.size) (h0 : 0 < k) (h63 : k ≤ 9223372036854775807) (hcs : (cs.drop i).take k = bytesA s) :
  Triple P o fr [] [(h, .row e 1 cs rc)] n n (.str s) [(h, .gone)] := by
 intro env F a w next Q hn hsat hfresh hkk
 have hd1 := ev_den hn (by rw [ho]; simp [Op.operands, Call.operands]) hx
 have hd2 := ev_den hn (by rw [ho]; simp [Op.operands, Call.operands]) hy
 simp only [Den] at hd1 hd2
 obtain ⟨b, p, len, cap, q1, q2⟩ := hd1
 have hlk : look ([(h, Res.row e 1 cs rc)] ++ []) h = some (.row e 1 cs rc) := by simp [look_cons]
 obtain ⟨v, hv, hs⟩ := hsat.sat hlk
 obtain ⟨b', o', m, C, xs, lo, hi, ys, tl, rw1⟩ := rowAt.1 hs
 have hval := rw1.val
 rw [q1] at hv
 cases hv
 simp only [Value.slice.injEq, Option.some.injEq, Addr.mk.injEq] at hval
 obtain ⟨⟨rfl, rfl, -⟩, rfl, rfl⟩ := hval
 have hsz : s.data.toList.length = k := by rw [hk]; rfl
 have hlen : i + k ≤ cs.length := by
  have := congrArg List.length hcs
  simp only [List.length_take, List.length_drop, bytesA, List.length_map, hsz] at this
  omega
 have hsh : w.shape? b = some (e, xs.size) := by simp [World.shape?, rw1.at_]
 have hrl := rw1.len
 have hrs := rw1.size
 have hcell : ∀ j x, s.data.toList[j]? = some x → w.cell? ((⟨b, p + i, none⟩ : Addr).add j) = some (.int .u8 x.toNat) := by
  intro j x hj
  have hjk : j < k := by rw [← hsz]; exact (List.getElem?_eq_some_iff.1 hj).1
  have h1 : cs[i + j]? = some (.int .u8 x.toNat) := by
   have h2 : ((cs.drop i).take k)[j]? = (bytesA s)[j]? := by rw [hcs]
   rw [List.getElem?_take, if_pos hjk, List.getElem?_drop] at h2
   rw [h2, bytesA, List.getElem?_map, hj]; rfl
  obtain ⟨y, r1, r2⟩ := rw1.cell h1
  simp only [Den] at r2
  rw [← r2, ← r1]
  congr 1
  unfold Addr.add
  split <;> simp_all [Nat.add_assoc]
 have hne : s.data.toList ≠ [] := by intro e; rw [e] at hsz; simp at hsz; omega
 have hrun := run_unsafeString_at (P := P) w t t' o.type e hp hc b (p + i) xs.size hsh s.data.toList hne (by rw [hsz]; omega) (by rw [hsz]; exact h63) hcell
 unfold Oper.wp
 rw [show (execOp a.eval o).run P w = .ok (.value (.string s)) (w.freeze ⟨b, p + i, none⟩ s.data.toList.length) by
  refine unsafeString_ex ho ?_
  rw [hsz] at hrun ⊢
  rw [q2, hd2, Nat.mul_one, Nat.add_zero]; exact hrun]
 refine hkk env (fun _ _ => False) _ _ ⟨Env.le.refl _, fun _ _ => rfl, ⟨?_, ?_⟩, ?_, ?_⟩ (by simp only [Den])
 ·intro k0 r0 hl0
  obtain ⟨rfl, rfl⟩ := look_one hl0
  exact ⟨_, q1, fun _ h => h⟩
 ·intro k0 r0 k1 r1 _ _ _ _ _ hf; exact hf.elim
 ·intro k0 r0 x0 _ hx0; exact hx0.elim
 ·have hfz : ∀ k0, (w.freeze ⟨b, p + i, none⟩ k0).os = w.os ∧ (w.freeze ⟨b, p + i, none⟩ k0).tape = w.tape ∧ (w.freeze ⟨b, p + i, none⟩ k0).output = w.output ∧ (w.freeze ⟨b, p + i, none⟩ k0).heap.size = w.heap.size ∧
    ∀ k1, k1 ≠ b → (w.freeze ⟨b, p + i, none⟩ k0).heap[k1]? = w.heap[k1]? := by
   intro k0
   unfold World.freeze
   split
   ·exact ⟨rfl, rfl, rfl, rfl, fun _ _ => rfl⟩
   ·refine ⟨rfl, rfl, rfl, by simp, fun k1 hk1 => ?_⟩
    simp only [Array.getElem?_modify]
    rw [if_neg (fun e => hk1 e.symm)]
  obtain ⟨f1, f2, f3, f4, f5⟩ := hfz s.data.toList.length
  refine ⟨f1, f2, f3, by omega, ?_⟩
  intro k1 _ hk1
  refine f5 k1 fun e1 => hk1 ⟨h, .row e 1 cs rc, by simp [look_cons], rfl, (rw1.foot k1).2 e1⟩
def NoZeroFn (P : Program) (g : FuncId) (ps : Array TypeId) (t e : TypeId) : Prop :=
 P.underlying t = some (.slice e) ∧ ∃ fn, P.funcs[g]? = some fn ∧ (fn.name == "runtime.NumGoroutine") = false ∧ fn.body.isNone = true ∧ Extern.findNext fn = none ∧ Extern.find fn = some (Extern.BytealgMakeNoZero.makeNoZero ps #[t])
theorem triple_makeNoZero {P : Program} {o : Oper} {fr : Fr} {n g t e k : Nat} {ps : Array TypeId} (hf : NoZeroFn P g ps t e) (hcall : IsCall o fr g [.int .i64 (k : Nat)]) (hk : k ≤ 281474976710656) :
  Triple P o fr [] [] n (n + 1) (.sv n 1 0 k none) [(n, .row e 1 [] none)] := by
 intro env F a w next Q hneed hsat hfresh hkk
 have hn' := hfresh n (Nat.le_refl _) (by omega)
 obtain ⟨xs, hx, hrun⟩ := evs_call hneed hcall
 obtain ⟨ht, fn, f1, f2, f3, f4, f5⟩ := hf
 simp only [Dens, Den] at hx
 obtain ⟨x, xl, hxs, rfl, rfl⟩ := hx
 have hxe : xs = #[.int .i64 k] := by apply Array.ext'; simpa using hxs
 subst hxe
 obtain ⟨cs, h1, h2, h3⟩ := Lib.run_makeNoZero (P := P) w ps t e ht k hk
 unfold Oper.wp
 rw [hrun, run_callFunc_extern f1 f2 f3 f4 f5, h1]
 simp only [Result.andThen, Oper.upon]
 refine hkk _ _ _ _ (Turn.row_new (w1 := w.drew.drew) (ys := []) (tl := cs.toList) (lo := 0) (hi := 0) (m := k) (C := cs.size) hn' ⟨rfl, rfl, rfl, rfl⟩ (by simp) (by simp) (by simp [Dens]) (.inr (Nat.le_refl _)) (fun k hk => by cases hk)) (sv_new h2 (fun k hk => by cases hk))
theorem triple_neq_same {P : Program} {o : Oper} {fr : Fr} {n h off t te u : Nat} {x y : Operand} {j : TypeInfo} (ho : o.op = .binOp .neq t x y u) (hx : ev fr x = some (.ptr h off)) (hy : ev fr y = some (.ptr h off)) (hp : P.underlying t = some (.pointer te)) (hj : P.info? te = some j) :
  Triple P o fr [] [] n n (.bool false) [] := by
 refine triple_val fun env a w hn => ?_
 have hd1 := ev_den hn (by rw [ho]; simp [Op.operands]) hx
 have hd2 := ev_den hn (by rw [ho]; simp [Op.operands]) hy
 simp only [Den] at hd1 hd2
 obtain ⟨b, h1, h2⟩ := hd1
 obtain ⟨b', h1', h2'⟩ := hd2
 rw [h1] at h1'
 cases h1'
 refine ⟨.bool false, ?_, by simp only [Den]⟩
 have hrun := Lib.run_neq_ptr_same (P := P) w ⟨b, off, none⟩ hp hj
 have hg := eqGuard_ok (P := P) (w := w) (op := .neq) (t := t) (x := x) (y := y) (a := a.eval x) (b := a.eval y) (by rw [h2]; simp) (by rw [h2']; simp)
 rw [h2, h2'] at hg
 simp only [execOp, ho, h2, h2']
 simp [hrun, hg]
theorem Ctr.lift {P : Program} {f : FuncId} {args : List AV} {pre post pre' R' : Heap} {n0 n1 N : Nat} {v : AV} (c : Ctr P f args [] pre n0 n1 v post) (σ : List Nat) (hcb : callB σ n0 N = true) (hex : allR pre exB = true) (hro : roB R' = true)
  (hsub : Sub (renH (sg σ N) pre) pre') (hd : domB pre' (renH (sg σ N) post) = true) : Ctr P f (renL (sg σ N) args) R' pre' N (N + (n1 - n0)) (renA (sg σ N) v) (renH (sg σ N) post) := by
 have c0 := c.ren (N := N) σ hcb
 have hnd : nodupB σ = true ∧ σ.all (fun k => Nat.blt k N) = true := by
  simp only [callB, Bool.and_eq_true] at hcb; exact ⟨hcb.2.1, hcb.2.2⟩
 have hinj := sg_inj hnd.1 hnd.2
 have c1 := c0.frame (R' := R') (pre' := pre') (fun k q hl => by
   have := (roB_all R') ▸ hro
   have := List.all_eq_true.1 this _ (look_mem hl)
   simpa using this)
  (fun k q hl => by
   obtain ⟨h, r, rfl, h1, rfl⟩ := look_renH_of hinj hl
   rw [excl_ren]
   have := (allR_eq pre exB) ▸ hex
   exact List.all_eq_true.1 this _ (look_mem h1)) (fun k q hl => by simp [renH, lookN] at hl)
  (fun k q hl => by rw [look_append, hsub k q hl]; rfl)
 exact c1.weak (fun k q hl => .inl (by rw [look_append, hl]; rfl)) hd
theorem sg10 (h n : Nat) : sg [h] n 0 = h := rfl
theorem sg11 (h n : Nat) : sg [h] n 1 = n := rfl
theorem sg20 (h r n : Nat) : sg [h, r] n 0 = h := rfl
theorem sg21 (h r n : Nat) : sg [h, r] n 1 = r := rfl
theorem callB1 {h N : Nat} (hh : Nat.blt h N = true) : callB [h] 1 N = true := by simp [callB, nodupB, hh]
theorem callB2 {h r N : Nat} (hh : Nat.blt h N = true) (hr : Nat.blt r N = true) (hne : Nat.beq h r = false) : callB [h, r] 2 N = true := by simp [callB, nodupB, hh, hr, hne]
def u8L (l : List AV) : Option (List UInt8) := List.rec (motive := fun _ => Option (List UInt8)) (some []) (fun v _ ih => match v, ih with
 | .int .u8 (.ofNat n), some l => match Nat.blt n 256 with
  | true => some (UInt8.ofNat n :: l)
  | false => none
 | _, _ => none) l
theorem u8L_ok : ∀ {l : List AV} {s : List UInt8}, u8L l = some s → l = s.map fun b => AV.int .u8 b.toNat
 | [], s, h => by cases h; rfl
 | v :: l, s, h => by
  simp only [u8L] at h
  split at h
  ·rename_i n l' hl
   split at h
   ·rename_i hb
    cases h
    have hb : n < 256 := Nat.le_of_ble_eq_true hb
    rw [u8L_ok hl]
    simp [Nat.mod_eq_of_lt hb]
   ·cases h
  ·cases h
structure BldSpec (P : Program) (fc fs fg e8 : Nat) (ls : List (Nat × Nat)) : Prop where
 fresh : ∀ {e : Nat} {rest : List AV}, rest.all bareA = true → (e, rest.length) ∈ ls → Ctr P fc [.ptr 0 0] [] [(0, .box e (.nilp :: .nils :: rest))] 1 1 (.tup []) [(0, .box e (.ptr 0 0 :: .nils :: rest))]
 used : ∀ {h n e : Nat} {buf : AV} {rest : List AV}, Nat.blt h n = true → okL n (buf :: rest) = true → Ctr P fc [.ptr h 0] [] [(h, .box e (.ptr h 0 :: buf :: rest))] n n (.tup []) [(h, .box e (.ptr h 0 :: buf :: rest))]
 row : ∀ {e i k : Nat} {rc : Option Nat} {rest cs : List AV} {s : ByteArray}, rest.all bareA = true → cs.all bareA = true → k = s.size → 0 < k → k ≤ 9223372036854775807 → (cs.drop i).take k = bytesA s →
  Ctr P fs [.ptr 0 0] [] [(0, .box e (.ptr 0 0 :: .sv 1 1 i k none :: rest)), (1, .row e8 1 cs rc)] 2 2 (.str s) [(0, .box e (.ptr 0 0 :: .sv 1 1 i k none :: rest)), (1, .gone)]
 nil : ∀ {e : Nat} {ad : AV} {rest : List AV}, rest.all bareA = true → okA 1 ad = true → Ctr P fs [.ptr 0 0] [] [(0, .box e (ad :: .nils :: rest))] 1 1 (.str ⟨#[]⟩) [(0, .box e (ad :: .nils :: rest))]
 grow : ∀ {e k : Nat} {rest : List AV}, rest.all bareA = true → k ≤ 281474976710656 → Ctr P fg [.ptr 0 0, .int .i64 k] [] [(0, .box e (.ptr 0 0 :: .nils :: rest))] 1 2 (.tup []) [(0, .box e (.ptr 0 0 :: .sv 1 1 0 0 none :: rest)), (1, .row e8 1 [] none)]
def memP (e k : Nat) (ls : List (Nat × Nat)) : Bool := List.rec (motive := fun _ => Bool) false (fun p _ ih => Bool.rec ih true (Nat.beq p.1 e && Nat.beq p.2 k)) ls
theorem memP_ok {e k : Nat} : ∀ {ls : List (Nat × Nat)}, memP e k ls = true → (e, k) ∈ ls
 | [], h => by cases h
 | (a, b) :: ls, h => by
  change (Bool.rec (memP e k ls) true (Nat.beq a e && Nat.beq b k) : Bool) = true at h
  cases hb : (Nat.beq a e && Nat.beq b k) with
  | true =>
   simp only [Bool.and_eq_true] at hb
   have h1 := Nat.eq_of_beq_eq_true hb.1
   have h2 := Nat.eq_of_beq_eq_true hb.2
   subst h1; subst h2; exact List.mem_cons_self
  | false => rw [hb] at h; exact List.mem_cons_of_mem _ (memP_ok h)
def ccOv (fc : Nat) (ls : List (Nat × Nat)) : Ov := fun g vs pre R n => match Nat.beq g fc with
 | false => none
 | true => match vs with
  | [.ptr h 0] => match look pre h with
   | some (.box e (.nilp :: .nils :: rest)) => match memP e (lenR rest) ls && (allR rest bareA && (Nat.blt h n && (roB R && domB pre [(h, .gone)]))) with
    | true => some (.tup [], [(h, .box e (.ptr h 0 :: .nils :: rest))], n)
    | false => none
   | some (.box e (.ptr k 0 :: buf :: rest)) => match Nat.beq k h && (okL n (buf :: rest) && (Nat.blt h n && roB R)) with
    | true => some (.tup [], pre, n)
    | false => none
   | _ => none
  | _ => none
def stOv (fs e8 : Nat) : Ov := fun g vs pre R n => match Nat.beq g fs with
 | false => none
 | true => match vs with
  | [.ptr h 0] => match look pre h with
   | some (.box e (.ptr k 0 :: .sv r 1 i m none :: rest)) => match look pre r with
    | some (.row e' 1 cs rc) => match u8L (takeR m (dropR i cs)) with
     | some s => match Nat.beq k h && (Nat.beq e' e8 && (Nat.beq (lenR s) m && (Nat.blt 0 m && (Nat.ble m 9223372036854775807 && (allR rest bareA && (allR cs bareA && (Nat.blt h n && (Nat.blt r n && (!(Nat.beq h r) && (roB R && domB pre [(h, .gone), (r, .gone)])))))))))) with
      | true => some (.str ⟨⟨s⟩⟩, [(h, .box e (.ptr h 0 :: .sv r 1 i m none :: rest)), (r, .gone)], n)
      | false => none
     | none => none
    | _ => none
   | some (.box e (ad :: .nils :: rest)) => match allR rest bareA && (Nat.blt h n && (roB R && domB pre [(h, .gone)])) with
    | true => match ad with
     | .nilp => some (.str ⟨#[]⟩, [(h, .box e (.nilp :: .nils :: rest))], n)
     | .ptr k 0 => match Nat.beq k h with
      | true => some (.str ⟨#[]⟩, [(h, .box e (.ptr h 0 :: .nils :: rest))], n)
      | false => none
     | _ => none
    | false => none
   | _ => none
  | _ => none
def grOv (fg e8 : Nat) : Ov := fun g vs pre R n => match Nat.beq g fg with
 | false => none
 | true => match vs with
  | [.ptr h 0, .int .i64 (.ofNat m)] => match look pre h with
   | some (.box e (.ptr k 0 :: .nils :: rest)) => match Nat.beq k h && (Nat.ble m 281474976710656 && (allR rest bareA && (Nat.blt h n && (roB R && domB pre [(h, .gone)])))) with
    | true => some (.tup [], [(h, .box e (.ptr h 0 :: .sv n 1 0 0 none :: rest)), (n, .row e8 1 [] none)], Nat.add n 1)
    | false => none
   | _ => none
  | _ => none
theorem ccOv_ok {P : Program} {fc fs fg e8 : Nat} {ls : List (Nat × Nat)} (hs : BldSpec P fc fs fg e8 ls) : OvOK P (ccOv fc ls) := by
 intro g vs pre R n v post n' h
 unfold ccOv at h
 split at h
 ·cases h
 ·rename_i hg
  have hg := Nat.eq_of_beq_eq_true hg
  subst hg
  split at h
  ·rename_i hd
   split at h
   ·rename_i e rest hl
    split at h
    ·rename_i hb
     simp only [Bool.and_eq_true, allR_eq, lenR_eq] at hb
     obtain ⟨b1, b2, b3, b4, b5⟩ := hb
     cases h
     have c := (hs.fresh b2 (memP_ok b1)).lift (N := n) [hd] (callB1 b3) rfl b4 (pre' := pre) (by
      intro k q hk
      simp only [renH, renR, renL, renA, bare_ren b2, look_cons, lookN, sg, nth] at hk
      split at hk
      ·rename_i e1; change hd = k at e1; subst e1; rw [hl]; simpa using hk
      ·cases hk) b5
     simpa only [renL, renA, renH, renR, bare_ren b2, Nat.sub_self, Nat.add_zero, sg10, sg11, sg20, sg21] using c
    ·cases h
   ·rename_i e k buf rest hl
    split at h
    ·rename_i hb
     simp only [Bool.and_eq_true] at hb
     obtain ⟨b1, b2, b3, b4⟩ := hb
     have b1 := Nat.eq_of_beq_eq_true b1
     subst b1
     cases h
     have c := (hs.used (e := e) b3 b2).frame (R' := R) (pre' := pre) (fun k q hl => by
       have := (roB_all R) ▸ b4
       have := List.all_eq_true.1 this _ (look_mem hl)
       simpa using this)
      (fun k q hl => by
       simp only [look_cons, lookN] at hl
       split at hl
       ·cases hl; rfl
       ·cases hl) (fun k q hl => by simp [lookN] at hl)
      (fun k q hk => by
       rw [look_append]
       simp only [look_cons, lookN] at hk
       split at hk
       ·rename_i e; subst e; rw [hl]; simpa using hk
       ·cases hk)
     refine c.weak (fun c q hk => .inl ?_) ?_
     ·rw [look_append]
      simp only [look_cons, lookN]
      split
      ·rename_i e; subst e; rw [hl] at hk; rw [← hk]; rfl
      ·simpa using hk
     ·unfold domB
      rw [List.all_eq_true]
      intro p hp
      rw [List.any_eq_true]
      exact ⟨p, hp, Nat.beq_refl _⟩
    ·cases h
   ·cases h
  ·cases h
theorem stOv_ok {P : Program} {fc fs fg e8 : Nat} {ls : List (Nat × Nat)} (hs : BldSpec P fc fs fg e8 ls) : OvOK P (stOv fs e8) := by
 intro g vs pre R n v post n' h
 unfold stOv at h
 split at h
 ·cases h
 ·rename_i hg
  have hg := Nat.eq_of_beq_eq_true hg
  subst hg
  split at h
  ·rename_i hd
   split at h
   ·rename_i e k r i m rest hl
    split at h
    ·rename_i e' cs rc hl2
     split at h
     ·rename_i s hu
      split at h
      ·rename_i hb
       simp only [Bool.and_eq_true, allR_eq, lenR_eq, Bool.not_eq_true'] at hb
       obtain ⟨b1, b2, b3, b4, b5, b6, b7, b8, b9, b10, b11, b12⟩ := hb
       have b1 := Nat.eq_of_beq_eq_true b1
       have b2 := Nat.eq_of_beq_eq_true b2
       have b3 := Nat.eq_of_beq_eq_true b3
       have b4 : 0 < m := Nat.le_of_ble_eq_true b4
       have b5 := Nat.le_of_ble_eq_true b5
       subst b1; subst b2
       cases h
       rw [takeR_eq, dropR_eq] at hu
       have c := (hs.row (e := e) (rc := rc) (s := ⟨⟨s⟩⟩) b6 b7 (by rw [← b3]; rfl) b4 b5 (u8L_ok hu)).lift (N := n) [k, r] (callB2 b8 b9 b10) rfl b11 (pre' := pre) (by
        intro c q hk
        simp only [renH, renR, renL, renA, bare_ren b6, bare_ren b7, look_cons, lookN, sg, nth] at hk
        split at hk
        ·rename_i e1; change k = c at e1; subst e1; rw [hl]; simpa using hk
        ·split at hk
         ·rename_i e1; change r = c at e1; subst e1; rw [hl2]; simpa using hk
         ·cases hk) b12
       simpa only [renL, renA, renH, renR, bare_ren b6, Nat.sub_self, Nat.add_zero, sg10, sg11, sg20, sg21] using c
      ·cases h
     ·cases h
    ·cases h
   ·rename_i e ad rest hl
    split at h
    ·rename_i hb
     simp only [Bool.and_eq_true, allR_eq] at hb
     obtain ⟨b1, b2, b3, b4⟩ := hb
     split at h
     ·cases h
      have c := (hs.nil (e := e) (ad := .nilp) b1 rfl).lift (N := n) [hd] (callB1 b2) rfl b3 (pre' := pre) (by
       intro k q hk
       simp only [renH, renR, renL, renA, bare_ren b1, look_cons, lookN, sg, nth] at hk
       split at hk
       ·rename_i e1; change hd = k at e1; subst e1; rw [hl]; simpa using hk
       ·cases hk) b4
      simpa only [renL, renA, renH, renR, bare_ren b1, Nat.sub_self, Nat.add_zero, sg10, sg11, sg20, sg21] using c
     ·rename_i k0
      split at h
      ·rename_i hk0
       have hk0 := Nat.eq_of_beq_eq_true hk0
       subst hk0
       cases h
       have c := (hs.nil (e := e) (ad := .ptr 0 0) b1 rfl).lift (N := n) [k0] (callB1 b2) rfl b3 (pre' := pre) (by
        intro k q hk
        simp only [renH, renR, renL, renA, bare_ren b1, look_cons, lookN, sg, nth] at hk
        split at hk
        ·rename_i e1; change k0 = k at e1; subst e1; rw [hl]; simpa using hk
        ·cases hk) b4
       simpa only [renL, renA, renH, renR, bare_ren b1, Nat.sub_self, Nat.add_zero, sg10, sg11, sg20, sg21] using c
      ·cases h
     ·cases h
    ·cases h
   ·cases h
  ·cases h
theorem grOv_ok {P : Program} {fc fs fg e8 : Nat} {ls : List (Nat × Nat)} (hs : BldSpec P fc fs fg e8 ls) : OvOK P (grOv fg e8) := by
 intro g vs pre R n v post n' h
 unfold grOv at h
 split at h
 ·cases h
 ·rename_i hg
  have hg := Nat.eq_of_beq_eq_true hg
  subst hg
  split at h
  ·rename_i hd m
   split at h
   ·rename_i e k rest hl
    split at h
    ·rename_i hb
     simp only [Bool.and_eq_true, allR_eq] at hb
     obtain ⟨b1, b2, b3, b4, b5, b6⟩ := hb
     have b1 := Nat.eq_of_beq_eq_true b1
     have b2 := Nat.le_of_ble_eq_true b2
     subst b1
     cases h
     have c := (hs.grow (e := e) b3 b2).lift (N := n) [k] (callB1 b4) rfl b5 (pre' := pre) (by
      intro c q hk
      simp only [renH, renR, renL, renA, bare_ren b3, look_cons, lookN, sg, nth] at hk
      split at hk
      ·rename_i e1; change k = c at e1; subst e1; rw [hl]; simpa using hk
      ·cases hk) (by
       unfold domB at b6 ⊢
       rw [List.all_eq_true] at b6 ⊢
       intro p hp
       have := b6 p hp
       simp only [List.any_cons, List.any_nil, Bool.or_false] at this
       simp only [renH, List.any_cons, Bool.or_eq_true]
       exact .inl this)
     simp only [renL, renA, renH, renR, bare_ren b3, sg10, sg11] at c; exact c
    ·cases h
   ·cases h
  ·cases h
theorem loopR {P : Program} {T : Tab} (hT : TabOK P T) (hm : P.follows .mixedOrders = true) {pu : Pure} (hp : PureOK P pu) {body : Code} {Q : Exit → St → Prop} {fr : Fr} {H : Heap} {n sz : Nat} {log : List (List Nat × List Nat)} {b : Nat} {α : Type}
  (I : α → Fr × Heap) (μ : α → Nat) (N : Nat) (a0 : α) (σ : List (Nat × Nat)) (h0 : Incl σ N (I a0).1 (I a0).2 ⟨fr, H, n, sz, [], log, b⟩)
  (hs : ∀ a, vcCode (AskR P pu) T body (loopQ I μ N a Q) ⟨(I a).1, (I a).2, N, sz, [], [], b⟩) : AtLoop P none body Q ⟨fr, H, n, sz, [], log, b⟩ := by
 refine ⟨?_⟩
 intro hst X Y w0 env0 ro Qc env F a w hro hb hbase hs0 hsi hq
 refine wpIn_loop_ghost (fun k a' w' => ∃ al, μ al = k ∧ ∃ env' F', SatS env' ⟨(I al).1, (I al).2, N, sz, [], [], b⟩ F' a' w' ∧ Since X Y w0 (I al).2 F' w' ∧ (∀ h, h < b → env' h = env0 h) ∧ b ≤ N) (μ a0) ?_ ?_
 ·obtain ⟨env', F', g1, g2, g3, g4⟩ := h0.sats (log := []) hs0 hsi hbase
  exact ⟨a0, rfl, env', F', g1, g2, g3, g4⟩
 ·rintro k a' w' ⟨al, rfl, env', F', g1, g2, g3, g4⟩
  refine vcCode_sound' hT hm (askROK P hp) body (hs al) hst X Y w0 env0 ro _ env' F' a' w' hro g4 g3 g1 g2 ?_
  intro e s' env2 F2 a2 w2 hQ k1 k2 k3 k4 k5 k6
  cases e with
  | normal =>
   obtain ⟨al', σ', hlt, hin⟩ := hQ.ex
   obtain ⟨env3, F3, q1, q2, q3, q4⟩ := hin.sats (log := []) k5 k6 k4
   simp only at k1 k2
   rw [hin.df, k1, k2] at q1
   rw [k1] at q3 q4
   exact ⟨μ al', hlt, al', rfl, env3, F3, q1, q2, q3, q4⟩
  | _ => exact hq _ _ _ _ _ _ hQ k1 k2 k3 k4 k5 k6
theorem Incl.same {N : Nat} {fr : Fr} {H : Heap} {s : St} (hv : ∀ p ∈ fr, look s.fr p.1 = some p.2) (hh : ∀ p ∈ H, look s.H p.1 = some p.2) (h1 : okFr N fr = true) (h2 : okH N H = true) (h3 : nodupB (H.map (·.1)) = true) (h4 : s.b ≤ N) (h5 : s.df = []) : Incl [] N fr H s := by
 have hid : ∀ k, asg [] k = k := fun _ => rfl
 have key : ∀ l : Heap, (∀ p ∈ l, look s.H p.1 = some p.2) → HasAll s.H (asg []) l := by
  intro l
  induction l with
  | nil => intro _; trivial
  | cons p l ih =>
   obtain ⟨k, r0⟩ := p
   intro h
   refine ⟨?_, ih fun p hp => h p (List.mem_cons_of_mem _ hp)⟩
   rw [hid, renR_id hid]
   exact h _ List.mem_cons_self
 have keyF : ∀ l : Fr, (∀ p ∈ l, look s.fr p.1 = some p.2) → HasFr (asg []) s.fr l := by
  intro l
  induction l with
  | nil => intro _; trivial
  | cons p l ih =>
   obtain ⟨k, r0⟩ := p
   intro h
   refine ⟨?_, ih fun p hp => h p (List.mem_cons_of_mem _ hp)⟩
   rw [renA_id hid]
   exact h _ List.mem_cons_self
 refine ⟨keyF fr hv, key H hh, ?_, h5⟩
 have hm : (H.map fun p => asg [] p.1) = H.map (·.1) := by simp [hid]
 simp only [h1, h2, hm, h3, Nat.ble_eq_true_of_le h4, Bool.true_and, List.all_nil]
def orP (p q : Pure) : Pure := fun g vs => match p g vs with
 | some v => some v
 | none => q g vs
theorem orP_ok {P : Program} {p q : Pure} (hp : PureOK P p) (hq : PureOK P q) : PureOK P (orP p q) := by
 intro g vs v h
 unfold orP at h
 split at h
 ·rename_i u hu; cases h; exact hp hu
 ·exact hq h
theorem Ctr.anyN {P : Program} {g : FuncId} {args : List AV} {v : AV} (c : Ctr P g args [] [] 0 0 v []) (ha : args.all bareA = true) (hv : okA 0 v = true) (n : Nat) : Ctr P g args [] [] n n v [] := by
 have c1 := c.ren (N := n) [] (by rfl)
 rw [bare_ren ha] at c1
 have : renA (sg [] n) v = v := by
  have key : ∀ {π : Nat → Nat}, (∀ v, okA 0 v = true → renA π v = v) ∧ True := by
   intro π
   refine ⟨?_, trivial⟩
   intro v hv
   exact okA0_ren v hv
  exact key.1 v hv
 rw [this] at c1
 simpa [renH] using c1
where
 okA0_ren {π : Nat → Nat} : ∀ v : AV, okA 0 v = true → renA π v = v
  | .bool _, _ | .int _ _, _ | .str _, _ | .nilp, _ | .nils, _ | .nilm, _ | .nilf, _ | .nili, _ | .raw _, _ => by simp [renA]
  | .hd k, h | .sl k _, h | .ptr k _, h | .el k _ _ _, h | .slc k _ _ _, h | .sv k _ _ _ _, h | .yld k, h => by simp [okA_hd, okA_sl, okA_ptr, okA_el, okA_slc, okA_sv, okA_yld, Nat.blt] at h
  | .agg l, h => by rw [okA_agg] at h; simp [renA, okL0_ren l h]
  | .tup l, h => by rw [okA_tup] at h; simp [renA, okL0_ren l h]
  | .iface _ v, h => by rw [okA_iface] at h; simp [renA, okA0_ren v h]
  | .fn _ l m, h => by rw [okA_fn, Bool.and_eq_true] at h; simp [renA, okL0_ren l h.1, okL0_ren m h.2]
 okL0_ren {π : Nat → Nat} : ∀ l : List AV, okL 0 l = true → renL π l = l
  | [], _ => by simp [renL]
  | v :: l, h => by rw [okL_cons, Bool.and_eq_true] at h; simp [renL, okA0_ren v h.1, okL0_ren l h.2]
end
end Go.SX
namespace Go.SX
noncomputable section
def add32 (a b : Nat) : Nat := Nat.mod (Nat.add a b) 4294967296
def xor32 (a b : Nat) : Nat := Nat.xor (Nat.mod a 4294967296) (Nat.mod b 4294967296)
def and32 (a b : Nat) : Nat := Nat.land (Nat.mod a 4294967296) (Nat.mod b 4294967296)
def or32 (a b : Nat) : Nat := Nat.lor (Nat.mod a 4294967296) (Nat.mod b 4294967296)
def shl32 (a k : Nat) : Nat := Nat.mod (Nat.mul a (Nat.pow 2 k)) 4294967296
def shr32 (a k : Nat) : Nat := Nat.div a (Nat.pow 2 k)
def not32 (a : Nat) : Nat := xor32 4294967295 a
def rot32 (x s : Nat) : Nat := or32 (shl32 x s) (shr32 x (Nat.sub 32 s))
theorem i_add (a b : Nat) : IntKind.u32.wrap ((a : Int) + (b : Int)) = ((add32 a b : Nat) : Int) := by
 have := wrapN_eq .u32 (a + b)
 exact this.symm
theorem and_lt {a b : Nat} : and32 a b < 4294967296 := Nat.lt_of_le_of_lt Nat.and_le_left (Nat.mod_lt _ (by decide))
theorem or_lt {a b : Nat} : or32 a b < 4294967296 := Nat.or_lt_two_pow (n := 32) (Nat.mod_lt _ (by decide)) (Nat.mod_lt _ (by decide))
theorem xor_lt {a b : Nat} : xor32 a b < 4294967296 := Nat.xor_lt_two_pow (n := 32) (Nat.mod_lt _ (by decide)) (Nat.mod_lt _ (by decide))
theorem i_xor (a b : Nat) : ibit .xor .u32 (a : Int) (b : Int) = ((xor32 a b : Nat) : Int) := by
 rw [← xor_eq]
 show (Int.ofNat (Nat.mod (xor32 a b) 4294967296)) = _
 rw [show Nat.mod (xor32 a b) 4294967296 = xor32 a b from Nat.mod_eq_of_lt xor_lt]; rfl
theorem i_and (a b : Nat) : ibit .and .u32 (a : Int) (b : Int) = ((and32 a b : Nat) : Int) := by
 rw [← and_eq]
 show (Int.ofNat (Nat.mod (and32 a b) 4294967296)) = _
 rw [show Nat.mod (and32 a b) 4294967296 = and32 a b from Nat.mod_eq_of_lt and_lt]; rfl
theorem i_or (a b : Nat) : ibit .or .u32 (a : Int) (b : Int) = ((or32 a b : Nat) : Int) := by
 rw [← or_eq]
 show (Int.ofNat (Nat.mod (or32 a b) 4294967296)) = _
 rw [show Nat.mod (or32 a b) 4294967296 = or32 a b from Nat.mod_eq_of_lt or_lt]; rfl
theorem i_shl (a k : Nat) (hk : k ≤ 32) : shlI .u32 (a : Int) (k : Int) = ((shl32 a k : Nat) : Int) := by
 rw [← shlQ_eq]
 show wrapN .u32 (a * 2 ^ minN (Int.toNat (k : Int)) 32) = _
 rw [minN_eq, Int.toNat_natCast, Nat.min_eq_left hk]; rfl
theorem i_shr (a k : Nat) (hk : k ≤ 32) : shrI .u32 (a : Int) (k : Int) = ((shr32 a k : Nat) : Int) := by
 rw [← shrQ_eq]
 show Int.ofNat (a / 2 ^ minN (Int.toNat (k : Int)) 32) = _
 rw [minN_eq, Int.toNat_natCast, Nat.min_eq_left hk]; rfl
def mkW (l : List Nat) : List AV := l.map fun x : Nat => AV.int .u32 (x : Int)
theorem mkW_len (l : List Nat) : (mkW l).length = l.length := by simp [mkW]
theorem mkW_bare (l : List Nat) : (mkW l).all bareA = true := by simp [mkW, bareA]
theorem readA_mk {l : List Nat} {i : Nat} (h : i < l.length) : readA false 1 (mkW l) i = some (.int .u32 ((l.getD i 0 : Nat) : Int)) := by
 simp [readA, nth_eq, mkW, h]
theorem splice_mk {l : List Nat} {i : Nat} {x : Nat} (h : i < l.length) : splice (mkW l) i [.int .u32 (x : Int)] = mkW (l.set i x) := by
 rw [splice_def]
 apply List.ext_getElem?
 intro j
 have hl : (mkW l).length = l.length := mkW_len l
 by_cases h1 : j < i
 ·rw [List.getElem?_append_left (by simp [hl]; omega), List.getElem?_take, if_pos h1]
  simp only [mkW, List.getElem?_map]
  rw [List.getElem?_set_ne (by omega)]
 ·rw [List.getElem?_append_right (by simp [hl]; omega)]
  simp only [List.length_take, hl]
  rw [show min i l.length = i by omega]
  by_cases h2 : j = i
  ·subst h2
   simp [mkW, h]
  ·rw [List.getElem?_append_right (by simp; omega), List.getElem?_drop]
   simp only [mkW, List.getElem?_map, List.length_cons, List.length_nil]
   rw [List.getElem?_set_ne (by omega)]
   congr 2; omega
def sch (x y a b : Nat) : Nat := add32 (add32 (add32 a (xor32 (xor32 (rot32 x 25) (rot32 x 14)) (shr32 x 3))) b) (xor32 (xor32 (rot32 y 15) (rot32 y 13)) (shr32 y 10))
def schB (x y a b : Nat) : Nat := add32 (add32 (add32 a b) (xor32 (xor32 (rot32 x 25) (rot32 x 14)) (shr32 x 3))) (xor32 (xor32 (rot32 y 15) (rot32 y 13)) (shr32 y 10))
def byteD (b : List UInt8) (i : Nat) : Nat := (b.getD i 0).toNat
def w1 (b : List UInt8) (i : Nat) (W : List Nat) : List Nat := W.set (i / 4) (or32 (W.getD (i / 4) 0) (shl32 (byteD b i) (24 - 8 * (i % 4))))
def st1 (b : List UInt8) : Nat → List Nat
 | 0 => List.replicate 64 0
 | i + 1 => w1 b i (st1 b i)
def w2 (t : Nat) (W : List Nat) : List Nat := W.set t (sch (W.getD (t - 15) 0) (W.getD (t - 2) 0) (W.getD (t - 16) 0) (W.getD (t - 7) 0))
def st2 (W : List Nat) : Nat → List Nat
 | 0 => W
 | k + 1 => w2 (16 + k) (st2 W k)
def sprP (b : List UInt8) : List Nat := st2 (st1 b (min 64 b.length)) 48
theorem st1_len (b : List UInt8) : ∀ i, (st1 b i).length = 64
 | 0 => by simp [st1]
 | i + 1 => by simp [st1, w1, st1_len b i]
theorem st2_len (W : List Nat) (h : W.length = 64) : ∀ i, (st2 W i).length = 64
 | 0 => h
 | i + 1 => by simp [st2, w2, st2_len W h i]
structure R8 where
 (a b c d e f g h : Nat)
def R8.l (r : R8) : List Nat := [r.a, r.b, r.c, r.d, r.e, r.f, r.g, r.h]
def oneP (k w : Nat) (r : R8) : Nat := add32 (add32 (add32 (add32 r.h (xor32 (xor32 (rot32 r.e 26) (rot32 r.e 21)) (rot32 r.e 7))) (xor32 r.g (and32 r.e (xor32 r.f r.g)))) k) w
def twoP (r : R8) : Nat := add32 (xor32 (xor32 (rot32 r.a 30) (rot32 r.a 19)) (rot32 r.a 10)) (or32 (and32 r.a (or32 r.b r.c)) (and32 r.b r.c))
def rndP (k w : Nat) (r : R8) : R8 := ⟨add32 (oneP k w r) (twoP r), r.a, r.b, r.c, add32 r.d (oneP k w r), r.e, r.f, r.g⟩
def itP (K W : List Nat) (r : R8) : Nat → R8
 | 0 => r
 | t + 1 => rndP (K.getD t 0) (W.getD t 0) (itP K W r t)
def addR (r s : R8) : R8 := ⟨add32 r.a s.a, add32 r.b s.b, add32 r.c s.c, add32 r.d s.d, add32 r.e s.e, add32 r.f s.f, add32 r.g s.g, add32 r.h s.h⟩
def blkP (K : List Nat) (r : R8) (b : List UInt8) : R8 := addR r (itP K (sprP b) r 64)
def rotI (x : Int) (s : Nat) : Int := ibit .or .u32 (shlI .u32 x (s : Int)) (shrI .u32 x ((32 - s : Nat) : Int))
theorem i_rot (x s : Nat) (h : s ≤ 32) : rotI (x : Int) s = ((rot32 x s : Nat) : Int) := by
 unfold rotI
 rw [i_shl _ _ h, i_shr _ _ (by omega), i_or]; rfl
def rotS (m : Nat) : Option Nat := match Nat.ble 1 m && Nat.ble m 31 with | true => some (Nat.sub 32 m) | false => none
theorem rotS_ok {m s : Nat} (h : rotS m = some s) : 1 ≤ m ∧ m ≤ 31 ∧ s = 32 - m := by
 unfold rotS at h
 split at h
 ·rename_i hb
  simp only [Bool.and_eq_true] at hb
  cases h
  exact ⟨Nat.le_of_ble_eq_true hb.1, Nat.le_of_ble_eq_true hb.2, rfl⟩
 ·cases h
def downP (f : Nat) (k : IntKind) : Pure := fun g vs => match Nat.beq g f, vs with
 | true, [.int .u32 x, .int k' (.ofNat m)] => match IntKind.same k' k, rotS m with
  | true, some s => some (.int .u32 (rotI x s))
  | _, _ => none
 | _, _ => none
theorem and31 (m : Nat) (h1 : 1 ≤ m) (h2 : m ≤ 31) : ibit .and .u64 (IntKind.u64.wrap (-(m : Int))) 31 = ((32 - m : Nat) : Int) := by
 have : ∀ m : _root_.Fin 32, 1 ≤ m.val → ibit .and .u64 (IntKind.u64.wrap (-(m.val : Int))) 31 = ((32 - m.val : Nat) : Int) := by decide
 exact this ⟨m, by omega⟩ h1
theorem wrap_nat64 (m : Nat) (h : m < 18446744073709551616) : IntKind.u64.wrap (m : Int) = (m : Int) := by
 have := wrapN_eq .u64 m
 rw [show (m : Int) = Int.ofNat m from rfl, ← this]
 show Int.ofNat (m % 18446744073709551616) = _
 rw [Nat.mod_eq_of_lt h]
theorem wrap_nat32 (m : Nat) (h : m < 4294967296) : IntKind.u32.wrap (m : Int) = (m : Int) := by
 have := wrapN_eq .u32 m
 rw [show (m : Int) = Int.ofNat m from rfl, ← this]
 show Int.ofNat (m % 4294967296) = _
 rw [Nat.mod_eq_of_lt h]
theorem ble_mk {l : List Nat} {i : Nat} (h : i < l.length) : Nat.ble (i + 1) (mkW l).length = true := Nat.ble_eq_true_of_le (by rw [mkW_len]; omega)
theorem i_rot' (x m : Nat) : rotI (x : Int) (Nat.sub 32 m) = ((rot32 x (Nat.sub 32 m) : Nat) : Int) := i_rot x _ (Nat.sub_le _ _)
theorem i_shr3 (a : Nat) : shrI .u32 (a : Int) 3 = ((shr32 a 3 : Nat) : Int) := i_shr a 3 (by decide)
theorem i_shr10 (a : Nat) : shrI .u32 (a : Int) 10 = ((shr32 a 10 : Nat) : Int) := i_shr a 10 (by decide)
theorem readA_all {l : List Nat} {n : Nat} (h : l.length = n) : readA true n (mkW l) 0 = some (.agg (mkW l)) := by
 have : (mkW l).length = n := by rw [mkW_len, h]
 simp [readA, this, Nat.ble_eq_true_of_le (Nat.le_refl n), List.take_of_length_le (Nat.le_of_eq this)]
theorem putM0 {P : Program} {pu : Pure} {rh : Option Nat} {o : Oper} {v : AV} {fr : Fr} {H : Heap} {n sz : Nat} {df : List Df} {log : List (List Nat × List Nat)} {bs : Nat} {rd wr : List Nat} {K : St → Prop} :
  putM (AskR P pu rh) o v fr H n sz df log bs rd wr K = put0 o v fr H n sz df log bs rd wr K := by
 unfold put0 putM
 cases o.dst with
 | none => rfl
 | some d => simp only [force_eq]; rfl
theorem mkW_leaf (l : List Nat) : (mkW l).all leafA = true := bare_leaf (mkW_bare l)
theorem splice_whole {cs ws : List AV} (h : cs.length = ws.length) : splice cs 0 ws = ws := by
 rw [splice_def, List.take_zero, List.nil_append, List.drop_eq_nil_of_le (by omega), List.append_nil]
theorem resL_cell {T : Tab} {fr : Fr} {H : Heap} {s ty h off e : Nat} {cs : List AV} {r : TRow} {v : AV} (h1 : look fr s = some (.ptr h off)) (h2 : look H h = some (.box e cs)) (h3 : T ty = some r) (h4 : readA r.agg r.size cs off = some v) :
  resL T fr H [.cell s ty] = some [v] := by
 rw [resL_cons, resL_nil]
 simp only [resA, h1, h2, h3, h4]
theorem sprP_eq (b : List UInt8) : sprP b = st2 (st1 b (min 64 b.length)) 48 := rfl
theorem sprP_len (b : List UInt8) : (sprP b).length = 64 := st2_len _ (st1_len _ _) _
attribute [irreducible] sprP
theorem unrollR {P : Program} {T : Tab} (hT : TabOK P T) (hm : P.follows .mixedOrders = true) {pu : Pure} (hp : PureOK P pu) {body : Code} {Q : Exit → St → Prop} {s : St} (n : Nat) (h : rounds (AskR P pu) (vcCode (AskR P pu) T body) Q n s) : AtLoop P none body Q s :=
 ⟨fun hst => rounds_sound (A := AskR P pu) (tr := fun p => p) (fun h => h) (fun h => vcCode_sound' hT hm (askROK P hp) body h hst) n h⟩
def turnI (x : Int) (m : Nat) : Int := ibit .or .u32 (shrI .u32 x (m : Int)) (shlI .u32 x ((32 - m : Nat) : Int))
def turnP (f : Nat) : Pure := fun g vs => match Nat.beq g f, vs with
 | true, [.int .u32 x, .int .u64 (.ofNat m)] => match Nat.ble m 32 with
  | true => some (.int .u32 (turnI x m))
  | _ => none
 | _, _ => none
def wrd (b : List UInt8) (at_ : Nat) : Nat → Nat
 | 0 => 0
 | j + 1 => or32 (shl32 (wrd b at_ j) 8) (byteD b (at_ + j))
theorem or_zero (x : Nat) : or32 (shl32 x 8) 0 = shl32 x 8 := by
 unfold or32
 have : shl32 x 8 < 4294967296 := Nat.mod_lt _ (by decide)
 show Nat.lor (shl32 x 8 % 4294967296) (0 % 4294967296) = _
 rw [Nat.mod_eq_of_lt this]
 exact Nat.or_zero _
theorem byteD_end {b : List UInt8} {i : Nat} (h : b.length ≤ i) : byteD b i = 0 := by
 unfold byteD; rw [List.getD_eq_getElem?_getD, List.getElem?_eq_none h]; rfl
theorem byteD_lt (b : List UInt8) (i : Nat) : byteD b i < 256 := by unfold byteD; exact UInt8.toNat_lt _
theorem byteAt_eq {b : ByteArray} {i : Nat} (h : i < b.size) : byteAt b (i : Int) = ((byteD b.data.toList i : Nat) : Int) := by
 unfold byteAt byteD
 rw [Int.toNat_natCast, getElem?_pos b i h, List.getD_eq_getElem?_getD, List.getElem?_eq_getElem (by simpa using h)]; rfl
def sw1 (b : List UInt8) : Nat → List Nat
 | 0 => List.replicate 64 0
 | t + 1 => (sw1 b t).set t (wrd b (4 * t) 4)
def sw2 (W : List Nat) : Nat → List Nat
 | 0 => W
 | k + 1 => (sw2 W k).set (16 + k) (schB ((sw2 W k).getD (16 + k - 15) 0) ((sw2 W k).getD (16 + k - 2) 0) ((sw2 W k).getD (16 + k - 16) 0) ((sw2 W k).getD (16 + k - 7) 0))
def sprR (b : List UInt8) : List Nat := sw2 (sw1 b 16) 48
attribute [irreducible] sprR
def oneR (k w : Nat) (r : R8) : Nat := add32 (add32 (add32 (add32 r.h (xor32 (xor32 (rot32 r.e 26) (rot32 r.e 21)) (rot32 r.e 7))) (xor32 (and32 r.e r.f) (and32 (not32 r.e) r.g))) k) w
def twoR (r : R8) : Nat := add32 (xor32 (xor32 (rot32 r.a 30) (rot32 r.a 19)) (rot32 r.a 10)) (xor32 (xor32 (and32 r.a r.b) (and32 r.a r.c)) (and32 r.b r.c))
def rndR (k w : Nat) (r : R8) : R8 := ⟨add32 (oneR k w r) (twoR r), r.a, r.b, r.c, add32 r.d (oneR k w r), r.e, r.f, r.g⟩
def itR (K W : List Nat) (r : R8) : Nat → R8
 | 0 => r
 | t + 1 => rndR (K.getD t 0) (W.getD t 0) (itR K W r t)
def blkR (K : List Nat) (r : R8) (b : List UInt8) : R8 := addR (itR K (sprR b) r 64) r
end
end Go.SX
namespace Go.SX
noncomputable section
def itG (step : Nat → Nat → R8 → R8) (K W : List Nat) (r : R8) : Nat → R8
 | 0 => r
 | t + 1 => step (K.getD t 0) (W.getD t 0) (itG step K W r t)
theorem itP_G (K W : List Nat) (r : R8) : ∀ t, itP K W r t = itG rndP K W r t
 | 0 => rfl
 | t + 1 => by rw [itP, itG, itP_G K W r t]
theorem itG_shift (step : Nat → Nat → R8 → R8) (x y : Nat) (K W : List Nat) (r : R8) : ∀ t, itG step (x :: K) (y :: W) r (t + 1) = itG step K W (step x y r) t
 | 0 => rfl
 | t + 1 => by
  rw [itG, itG_shift step x y K W r t, itG]
  simp
def forceR {α : Type} (r : R8) (K : Nat → Nat → Nat → Nat → Nat → Nat → Nat → Nat → α) : α :=
 numK r.a fun a => numK r.b fun b => numK r.c fun c => numK r.d fun d => numK r.e fun e => numK r.f fun f => numK r.g fun g => numK r.h fun h => K a b c d e f g h
theorem forceR_eq {α : Type} (r : R8) (K : Nat → Nat → Nat → Nat → Nat → Nat → Nat → Nat → α) : forceR r K = K r.a r.b r.c r.d r.e r.f r.g r.h := by simp only [forceR, numK_eq]
def itF {α : Type} (step : Nat → Nat → R8 → R8) (K W : List Nat) (r : R8) (k : R8 → α) : α :=
 List.rec (motive := fun _ => List Nat → R8 → (R8 → α) → α) (fun _ r k => k r)
  (fun x _ ih W r k => List.rec (motive := fun _ => α) (k r) (fun y W' _ => forceR (step x y r) fun a b c d e f g h => ih W' ⟨a, b, c, d, e, f, g, h⟩ k) W) K W r k
theorem itF_eq {α : Type} (step : Nat → Nat → R8 → R8) : ∀ (K W : List Nat) (r : R8) (k : R8 → α), K.length = W.length → itF step K W r k = k (itG step K W r K.length)
 | [], _, _, _, _ => rfl
 | _ :: _, [], _, _, h => by cases h
 | x :: K, y :: W, r, k, h => by
  have h : K.length = W.length := by simpa using h
  rw [List.length_cons, itG_shift, ← itF_eq step K W _ k h]
  show forceR (step x y r) (fun a b c d e f g h => itF step K W ⟨a, b, c, d, e, f, g, h⟩ k) = _
  rw [forceR_eq]
def nthN (i : Nat) (l : List Nat) : Nat := List.rec (motive := fun _ => Nat) 0 (fun x _ _ => x) (dropR i l)
theorem nthN_eq (i : Nat) (l : List Nat) : nthN i l = l.getD i 0 := by
 unfold nthN
 rw [dropR_eq, List.getD_eq_getElem?_getD, ← List.head?_drop]
 cases l.drop i <;> rfl
def nextW (l : List Nat) : Nat := sch (l.getD 14 0) (l.getD 1 0) (l.getD 15 0) (l.getD 6 0)
def genL : Nat → List Nat → List Nat
 | 0, l => l
 | n + 1, l => genL n (nextW l :: l)
def genK {α : Type} (n : Nat) (l : List Nat) (k : List Nat → α) : α :=
 Nat.rec (motive := fun _ => List Nat → α) (fun l => k l) (fun _ ih l => numK (nthN 14 l) fun a => numK (nthN 1 l) fun b => numK (nthN 15 l) fun c => numK (nthN 6 l) fun d => numK (sch a b c d) fun x => ih (x :: l)) n l
theorem genK_eq {α : Type} : ∀ (n : Nat) (l : List Nat) (k : List Nat → α), genK n l k = k (genL n l)
 | 0, _, _ => rfl
 | n + 1, l, k => by
  rw [genL, ← genK_eq n (nextW l :: l) k]
  show (numK (nthN 14 l) fun a => numK (nthN 1 l) fun b => numK (nthN 15 l) fun c => numK (nthN 6 l) fun d => numK (sch a b c d) fun x => genK n (x :: l) k) = _
  simp only [numK_eq, nthN_eq, nextW]
theorem genL_len : ∀ (n : Nat) (l : List Nat), (genL n l).length = n + l.length
 | 0, _ => by simp [genL]
 | n + 1, l => by rw [genL, genL_len n]; simp; omega
theorem rev_getD {l Z : List Nat} {i j : Nat} (h : i + j + 1 = l.length) : (l.reverse ++ Z).getD i 0 = l.getD j 0 := by
 have h1 : i < l.reverse.length := by simp; omega
 simp only [List.getD_eq_getElem?_getD]
 rw [List.getElem?_append_left h1, List.getElem?_reverse (by omega)]
 rw [show l.length - 1 - i = j by omega]
theorem st2_gen (W : List Nat) (m : Nat) : ∀ (n k : Nat) (l : List Nat), l.length = 16 + k → n + k = m → st2 W k = l.reverse ++ List.replicate n 0 → st2 W m = (genL n l).reverse
 | 0, k, l, _, hn, h => by
  have : k = m := by omega
  subst this
  rw [genL, h]; simp
 | n + 1, k, l, hl, hn, h => by
  rw [genL]
  refine st2_gen W m n (k + 1) (nextW l :: l) (by simp [hl]; omega) (by omega) ?_
  rw [st2, w2, h]
  rw [rev_getD (j := 14) (by omega), rev_getD (j := 1) (by omega), rev_getD (j := 15) (by omega), rev_getD (j := 6) (by omega)]
  rw [List.set_append_right _ _ (by simp; omega)]
  rw [show 16 + k - l.reverse.length = 0 by simp; omega]
  simp [List.replicate_succ, nextW]
def wordsK {α : Type} (f : Nat → Nat) (n : Nat) (k : List Nat → α) : α :=
 Nat.rec (motive := fun _ => (List Nat → α) → α) (fun k => k []) (fun i ih k => ih fun l => numK i fun i => numK (f i) fun x => k (x :: l)) n k
theorem wordsK_eq {α : Type} (f : Nat → Nat) : ∀ (n : Nat) (k : List Nat → α), wordsK f n k = k ((List.range n).map f).reverse
 | 0, _ => rfl
 | n + 1, k => by
  show wordsK f n (fun l => numK n fun i => numK (f i) fun x => k (x :: l)) = _
  rw [wordsK_eq f n]
  simp [numK_eq, List.range_succ]
def byteF (b : List UInt8) (i : Nat) : Nat := List.rec (motive := fun _ => Nat) 0 (fun x _ _ => x.toNat) (dropR i b)
theorem byteF_eq (b : List UInt8) (i : Nat) : byteF b i = byteD b i := by
 unfold byteF byteD
 rw [dropR_eq, List.getD_eq_getElem?_getD, ← List.head?_drop]
 cases b.drop i <;> rfl
def wrdP (b : List UInt8) (t : Nat) : Nat := or32 (or32 (or32 (or32 0 (shl32 (byteF b (Nat.mul 4 t)) 24)) (shl32 (byteF b (Nat.add (Nat.mul 4 t) 1)) 16)) (shl32 (byteF b (Nat.add (Nat.mul 4 t) 2)) 8)) (shl32 (byteF b (Nat.add (Nat.mul 4 t) 3)) 0)
def wrdR (b : List UInt8) (t : Nat) : Nat := or32 (shl32 (or32 (shl32 (or32 (shl32 (or32 (shl32 0 8) (byteF b (Nat.mul 4 t))) 8) (byteF b (Nat.add (Nat.mul 4 t) 1))) 8) (byteF b (Nat.add (Nat.mul 4 t) 2))) 8) (byteF b (Nat.add (Nat.mul 4 t) 3))
theorem w1_at {b : List UInt8} {L Z : List Nat} {x t j i : Nat} (hL : L.length = t) (hj : j < 4) (hi : i = 4 * t + j) : w1 b i (L ++ x :: Z) = L ++ or32 x (shl32 (byteD b i) (24 - 8 * j)) :: Z := by
 unfold w1
 rw [show i / 4 = t by omega, show i % 4 = j by omega]
 rw [List.set_append_right _ _ (by omega), show t - L.length = 0 by omega, List.set_cons_zero]
 congr 3
 rw [List.getD_eq_getElem?_getD, List.getElem?_append_right (by omega), show t - L.length = 0 by omega]; rfl
theorem st1_words (b : List UInt8) : ∀ t, t ≤ 16 → st1 b (4 * t) = (List.range t).map (wrdP b) ++ List.replicate (64 - t) 0
 | 0, _ => by simp [st1]
 | t + 1, h => by
  have ih := st1_words b t (by omega)
  rw [show 64 - t = (64 - (t + 1)) + 1 by omega, List.replicate_succ] at ih
  have hL : ((List.range t).map (wrdP b)).length = t := by simp
  rw [show 4 * (t + 1) = 4 * t + 1 + 1 + 1 + 1 by omega, st1, st1, st1, st1, ih]
  rw [w1_at hL (by decide : 0 < 4) (by omega), w1_at hL (by decide : 1 < 4) (by omega), w1_at hL (by decide : 2 < 4) (by omega), w1_at hL (by decide : 3 < 4) (by omega)]
  rw [List.range_succ, List.map_append, List.append_assoc]
  simp only [wrdP, byteF_eq, List.map_cons, List.map_nil, List.cons_append, List.nil_append]
  rfl
theorem st1_lt (b : List UInt8) : ∀ i, ∀ x ∈ st1 b i, x < 4294967296
 | 0, x, hx => by
  have : x = 0 := (List.mem_replicate.1 hx).2
  subst this; decide
 | i + 1, x, hx => by
  rw [st1, w1] at hx
  rcases List.mem_or_eq_of_mem_set hx with h | h
  ·exact st1_lt b i x h
  ·rw [h]; exact or_lt
theorem or32_shl0 {x : Nat} (h : x < 4294967296) (s : Nat) : or32 x (shl32 0 s) = x := by
 have : shl32 0 s = 0 := by
  show Nat.mod (Nat.mul 0 (Nat.pow 2 s)) 4294967296 = 0
  rw [show Nat.mul 0 (Nat.pow 2 s) = 0 from Nat.zero_mul _]
 rw [this]
 show Nat.lor (x % 4294967296) (0 % 4294967296) = x
 rw [Nat.mod_eq_of_lt h]
 exact Nat.or_zero _
theorem st1_end (b : List UInt8) : ∀ k n, b.length ≤ n → n + k ≤ 64 → st1 b (n + k) = st1 b n
 | 0, _, _, _ => rfl
 | k + 1, n, h, h2 => by
  have ih := st1_end b k n h (by omega)
  rw [show n + (k + 1) = (n + k) + 1 by omega, st1, ih, w1, byteD_end (by omega)]
  have hlt : (n + k) / 4 < (st1 b n).length := by rw [st1_len]; omega
  have hg : (st1 b n).getD ((n + k) / 4) 0 = (st1 b n)[(n + k) / 4] := by
   rw [List.getD_eq_getElem?_getD, List.getElem?_eq_getElem hlt]; rfl
  rw [hg, or32_shl0 (st1_lt b n _ (List.getElem_mem hlt))]
  exact List.set_getElem_self hlt
theorem sprP_gen (b : List UInt8) : sprP b = (genL 48 ((List.range 16).map (wrdP b)).reverse).reverse := by
 rw [sprP_eq]
 have h1 : st1 b (min 64 b.length) = st1 b (4 * 16) := by
  by_cases h : b.length ≤ 64
  ·rw [Nat.min_eq_right h]
   have := st1_end b (64 - b.length) b.length (Nat.le_refl _) (by omega)
   rw [show b.length + (64 - b.length) = 4 * 16 by omega] at this
   exact this.symm
  ·rw [Nat.min_eq_left (by omega)]
 rw [h1]
 refine st2_gen _ 48 48 0 _ (by simp) rfl ?_
 rw [st2, st1_words b 16 (by omega), List.reverse_reverse]
def revR (l : List Nat) : List Nat := List.rec (motive := fun _ => List Nat → List Nat) (fun a => a) (fun x _ ih a => ih (x :: a)) l []
theorem revR_eq (l : List Nat) : revR l = l.reverse := by
 have : ∀ a, List.rec (motive := fun _ => List Nat → List Nat) (fun a => a) (fun x _ ih a => ih (x :: a)) l a = l.reverse ++ a := by
  induction l with
  | nil => intro a; rfl
  | cons x l ih => intro a; show List.rec (motive := fun _ => List Nat → List Nat) (fun a => a) (fun x _ ih a => ih (x :: a)) l (x :: a) = _; rw [ih]; simp
 rw [revR, this, List.append_nil]
def u32K {α : Type} (v : AV) (k : Nat → Option α) : Option α := match v with
 | .int .u32 (.ofNat a) => k a
 | _ => none
theorem u32K_ok {α : Type} {v : AV} {k : Nat → Option α} {x : α} (h : u32K v k = some x) : ∃ a : Nat, v = .int .u32 (a : Int) ∧ k a = some x := by
 unfold u32K at h
 split at h
 ·exact ⟨_, rfl, h⟩
 ·cases h
def shaOv (f : Nat) (step : Nat → Nat → R8 → R8) (wd : List UInt8 → Nat → Nat) (K : List Nat) (sum : R8 → R8 → R8) : Ov := fun g vs pre R n => match Nat.beq g f with
 | false => none
 | true => match vs with
  | [.agg [v1, v2, v3, v4, v5, v6, v7, v8], .str s] => match pre with
   | [] => match roB R with
    | true => u32K v1 fun a => u32K v2 fun b => u32K v3 fun c => u32K v4 fun d => u32K v5 fun e => u32K v6 fun f => u32K v7 fun g => u32K v8 fun h =>
     wordsK (wd s.data.toList) 16 fun l => genK 48 l fun l => itF step K (revR l) ⟨a, b, c, d, e, f, g, h⟩ fun q => forceR (sum ⟨a, b, c, d, e, f, g, h⟩ q) fun a b c d e f g h =>
      some (.agg [.int .u32 (.ofNat a), .int .u32 (.ofNat b), .int .u32 (.ofNat c), .int .u32 (.ofNat d), .int .u32 (.ofNat e), .int .u32 (.ofNat f), .int .u32 (.ofNat g), .int .u32 (.ofNat h)], [], n)
    | false => none
   | _ => none
  | _ => none
theorem Ctr.anyO {P : Program} {g : FuncId} {args : List AV} {v : AV} (c : Ctr P g args [] [] 0 0 v []) (ha : okL 0 args = true) (hv : okA 0 v = true) (n : Nat) : Ctr P g args [] [] n n v [] := by
 have c1 := c.ren (N := n) [] (by rfl)
 rw [Ctr.anyN.okL0_ren args ha, Ctr.anyN.okA0_ren v hv] at c1
 simpa [renH] using c1
theorem shaOv_ok {P : Program} {f : Nat} {step : Nat → Nat → R8 → R8} {wd : List UInt8 → Nat → Nat} {K : List Nat} {sum : R8 → R8 → R8} (hK : K.length = 64)
  (hs : ∀ (r : R8) (s : ByteArray), Ctr P f [.agg (mkW r.l), .str s] [] [] 0 0 (.agg (mkW (sum r (itG step K (genL 48 ((List.range 16).map (wd s.data.toList)).reverse).reverse r 64)).l)) []) : OvOK P (shaOv f step wd K sum) := by
 intro g vs pre R n v post n' h
 unfold shaOv at h
 split at h
 ·cases h
 ·rename_i hg
  have hg := Nat.eq_of_beq_eq_true hg
  subst hg
  split at h
  ·rename_i v1 v2 v3 v4 v5 v6 v7 v8 s
   split at h
   ·split at h
    ·rename_i hR
     obtain ⟨a, rfl, h0⟩ := u32K_ok h
     clear h
     have h := h0
     clear h0
     try dsimp only at h
     obtain ⟨b, rfl, h0⟩ := u32K_ok h
     clear h
     have h := h0
     clear h0
     try dsimp only at h
     obtain ⟨c, rfl, h0⟩ := u32K_ok h
     clear h
     have h := h0
     clear h0
     try dsimp only at h
     obtain ⟨d, rfl, h0⟩ := u32K_ok h
     clear h
     have h := h0
     clear h0
     try dsimp only at h
     obtain ⟨e, rfl, h0⟩ := u32K_ok h
     clear h
     have h := h0
     clear h0
     try dsimp only at h
     obtain ⟨f', rfl, h0⟩ := u32K_ok h
     clear h
     have h := h0
     clear h0
     try dsimp only at h
     obtain ⟨g', rfl, h0⟩ := u32K_ok h
     clear h
     have h := h0
     clear h0
     try dsimp only at h
     obtain ⟨h', rfl, h0⟩ := u32K_ok h
     clear h
     have h := h0
     clear h0
     try dsimp only at h
     rw [wordsK_eq, genK_eq, itF_eq _ _ _ _ _ (by rw [revR_eq, hK]; simp [genL_len]), forceR_eq, revR_eq, hK] at h
     have hc := hs ⟨a, b, c, d, e, f', g', h'⟩ s
     generalize sum ⟨a, b, c, d, e, f', g', h'⟩ _ = q at h hc
     cases h
     have c1 := hc.anyO (by simp [okL_cons, okL_nil, okA_agg, okA_str, bare_ok (mkW_bare _)]) (by rw [okA_agg]; exact bare_ok (mkW_bare _)) n
     have c2 := c1.frame (R' := R) (pre' := []) (fun k q hl => by
       have := (roB_all R) ▸ hR
       have := List.all_eq_true.1 this _ (look_mem hl)
       simpa using this)
      (fun k q hl => by cases hl) (fun k q hl => by cases hl) (fun k q hl => by cases hl)
     exact c2
    ·cases h
   ·cases h
  ·cases h
end
end Go.SX
-- MERGED
-- SQUEEZED
