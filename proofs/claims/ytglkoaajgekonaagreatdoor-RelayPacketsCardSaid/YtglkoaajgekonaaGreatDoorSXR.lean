/- SX, part R: a table of functions. -/
import Derived.Test.YtglkoaajgekonaaGreatDoorSXQ
import Derived.Laws.Externs
import Derived.Lib.Bytealg
import Derived.Lib.Builder
namespace Go.SX
noncomputable section
inductive TrF where
 | lf
 | nd (k : Nat) (v : FRow) (l r : TrF)
def TrF.get (t : TrF) (n : Nat) : Option FRow := TrF.rec (motive := fun _ => Option FRow) none (fun k v _ _ l r => Bool.rec (Bool.rec r l (Nat.blt n k)) (some v) (Nat.beq n k)) t
theorem TrF.get_nd (k : Nat) (v : FRow) (l r : TrF) (n : Nat) : (TrF.nd k v l r).get n = (match Nat.beq n k with
  | true => some v
  | false => match Nat.blt n k with
   | true => l.get n
   | false => r.get n) := by
 show (Bool.rec (Bool.rec (r.get n) (l.get n) (Nat.blt n k)) (some v) (Nat.beq n k) : Option FRow) = _
 cases Nat.beq n k <;> cases Nat.blt n k <;> rfl
def TrF.All (p : Nat → FRow → Prop) : TrF → Prop
 | .lf => True
 | .nd k v l r => p k v ∧ l.All p ∧ r.All p
theorem TrF.get_ok {p : Nat → FRow → Prop} : ∀ {t : TrF}, t.All p → ∀ {g r}, t.get g = some r → p g r
 | .lf, _, g, r, h => by cases h
 | .nd k v l r, ⟨h1, h2, h3⟩, g, row, h => by
  rw [TrF.get_nd] at h
  split at h
  ·rename_i e
   have := Nat.eq_of_beq_eq_true e
   subst this; cases h; exact h1
  ·split at h
   ·exact TrF.get_ok h2 h
   ·exact TrF.get_ok h3 h
def bodyOf (fn : Func) : Code := match fn.body with | some c => c | none => .skip
def rowOf (fn : Func) : FRow := ⟨fn.ntmps, fn.results.toList, bodyOf fn⟩
def funB (fn : Func) : Bool := match fn.body with | some c => staticC c && !(fn.name == "runtime.NumGoroutine") | none => false
theorem funOK {P : Program} {g : FuncId} {fn : Func} (hf : P.funcs[g]? = some fn) (hb : funB fn = true) : FunOK P g (rowOf fn) := by
 unfold funB at hb
 split at hb
 ·rename_i c hc
  simp only [Bool.and_eq_true] at hb
  refine ⟨fn, hf, rfl, rfl, ?_, ?_, ?_⟩
  ·simp [rowOf, bodyOf, hc]
  ·unfold HasBody; rw [hf]; simp only; rw [hb.2, hc]; rfl
  ·simp [rowOf, bodyOf, hc, hb.1]
 ·cases hb
def noPure : Pure := fun _ _ => none
end
end Go.SX
namespace Go.SX
noncomputable section
inductive Ek where
 | count | indexByte | cmp | noEscape
 | typeOf (rt g : Nat) (l : List Nat)
 | comparable (g : Nat) (l : List Nat)
def cntA : List UInt8 → Nat → Nat → Nat
 | [], _, k => k
 | x :: l, c, k => match Nat.beq x.toNat c with
  | true => cntA l c (k + 1)
  | false => cntA l c k
def idxA : List UInt8 → Nat → Nat → Int
 | [], _, _ => -1
 | x :: l, c, i => match Nat.beq x.toNat c with
  | true => Int.ofNat i
  | false => idxA l c (i + 1)
def cmpA : List UInt8 → List UInt8 → Int
 | [], [] => 0
 | [], _ :: _ => -1
 | _ :: _, [] => 1
 | x :: l, y :: m => match Nat.beq x.toNat y.toNat with
  | true => cmpA l m
  | false => match Nat.blt x.toNat y.toNat with
   | true => -1
   | false => 1
def Ek.fn : Ek → Array Value → Go.Sem Value
 | .count => Extern.BytealgCount.count
 | .indexByte => Extern.BytealgIndexByte.indexByte
 | .cmp => Extern.BytealgCompare.compare
 | .noEscape => Extern.AbiNoEscape.same
 | .typeOf _ _ _ => Extern.ReflectliteType.typeOf
 | .comparable _ _ => Extern.ReflectliteType.method fun t => do Extern.Rtype.noPackHeld "Comparable" t; pure (.bool (← typeInfo t).comparable)
def Ek.okP (P : Program) : Ek → Prop
 | .typeOf rt g l => ∀ t ∈ l, ∀ (v : Value) (w : World), (Extern.ReflectliteType.typeOf #[.iface t v]).run P w = .ok (.iface rt (.agg #[.pointer (some ⟨g, t, none⟩)])) w
 | .comparable g l => ∀ t ∈ l, ∀ w : World, (Ek.fn (.comparable g l) #[.agg #[.pointer (some ⟨g, t, none⟩)]]).run P w = .ok (.bool true) w
 | _ => True
def Ek.res : Ek → List AV → Option AV
 | .count, [.str s, .int .u8 c] => some (.int .i64 (cntA s.data.toList (c.toNat % 256) 0))
 | .indexByte, [.str s, .int .u8 c] => some (.int .i64 (idxA s.data.toList (c.toNat % 256) 0))
 | .cmp, [.str s, .str t] => some (.int .i64 (cmpA s.data.toList t.data.toList))
 | .noEscape, [v] => some v
 | .typeOf rt g l, [.iface t _] => match memNs t l with
  | true => some (.iface rt (.agg [.raw (.pointer (some ⟨g, t, none⟩))]))
  | false => none
 | .comparable g l, [.agg [.raw (.pointer (some ⟨g', t, none⟩))]] => match Nat.beq g' g && memNs t l with
  | true => some (.bool true)
  | false => none
 | _, _ => none
theorem u8_beq (x : UInt8) (c : Nat) : Nat.beq x.toNat (c % 256) = (x == UInt8.ofNat c) := by
 rw [Bool.eq_iff_iff]
 constructor
 ·intro h
  have := Nat.eq_of_beq_eq_true h
  simp only [beq_iff_eq]
  apply UInt8.toNat_inj.1
  rw [this]; simp
 ·intro h
  simp only [beq_iff_eq] at h
  rw [h]
  simp
theorem cnt_eq (c : Nat) : ∀ (l : List UInt8) (k : Nat), cntA l (c % 256) k = k + Lib.countByte l (UInt8.ofNat c)
 | [], k => by simp [cntA, Lib.countByte]
 | x :: l, k => by
  unfold cntA
  rw [u8_beq]
  unfold Lib.countByte
  rw [List.count_cons]
  have ih1 := cnt_eq c l (k + 1)
  have ih2 := cnt_eq c l k
  unfold Lib.countByte at ih1 ih2
  cases h : (x == UInt8.ofNat c) with
  | true => simp only [if_true]; rw [ih1]; omega
  | false => simp only [Bool.false_eq_true, if_false]; rw [ih2]; omega
theorem idx_eq (c : Nat) : ∀ (l : List UInt8) (i : Nat), idxA l (c % 256) i = (if Lib.indexByte l (UInt8.ofNat c) == -1 then -1 else Lib.indexByte l (UInt8.ofNat c) + i)
 | [], i => by simp [idxA, Lib.indexByte]
 | x :: l, i => by
  unfold idxA Lib.indexByte
  rw [u8_beq, idx_eq c l (i + 1)]
  have hge := Lib.indexByte_ge l (UInt8.ofNat c)
  cases h : (x == UInt8.ofNat c) with
  | true => simp
  | false =>
   simp only [Bool.false_eq_true, if_false]
   by_cases e : Lib.indexByte l (UInt8.ofNat c) = -1
   ·simp [e]
   ·have e1 : (Lib.indexByte l (UInt8.ofNat c) == -1) = false := by simpa using e
    have e2 : (Lib.indexByte l (UInt8.ofNat c) + 1 == -1) = false := by
     simp only [beq_eq_false_iff_ne, ne_eq]; omega
    rw [e1]
    simp only [Bool.false_eq_true, if_false, e2]
    omega
theorem cmp_eq : ∀ (l m : List UInt8), cmpA l m = Lib.compareBytes l m
 | [], [] => rfl
 | [], _ :: _ => rfl
 | _ :: _, [] => rfl
 | x :: l, y :: m => by
  unfold cmpA Lib.compareBytes
  cases h : Nat.beq x.toNat y.toNat with
  | true =>
   have := Nat.eq_of_beq_eq_true h
   have h1 : ¬ x < y := by rw [UInt8.lt_iff_toNat_lt]; omega
   have h2 : ¬ y < x := by rw [UInt8.lt_iff_toNat_lt]; omega
   simp only [h1, h2, if_false]
   exact cmp_eq l m
  | false =>
   have hne : x.toNat ≠ y.toNat := by intro e; rw [e, Nat.beq_refl] at h; cases h
   simp only [UInt8.lt_iff_toNat_lt]
   cases h3 : Nat.blt x.toNat y.toNat with
   | true => have : x.toNat < y.toNat := by simpa using h3
             simp [this]
   | false =>
    have : ¬ x.toNat < y.toNat := by
     intro hl
     have : Nat.blt x.toNat y.toNat = true := by simpa using hl
     rw [this] at h3; cases h3
    have h4 : y.toNat < x.toNat := by omega
    simp [this, h4]
def ExtFn (P : Program) (g : FuncId) (k : Ek) : Prop :=
 ∃ fn, P.funcs[g]? = some fn ∧ (fn.name == "runtime.NumGoroutine") = false ∧ fn.body.isNone = true ∧ Extern.findNext fn = none ∧ Extern.find fn = some k.fn ∧ k.okP P
theorem ext_ok {P : Program} {g : FuncId} {k : Ek} (h : ExtFn P g k) {vs : List AV} {v : AV} (hr : k.res vs = some v) : ExtAt P g vs v := by
 obtain ⟨fn, h1, h2, h3, h4, h5, h6⟩ := h
 intro env xs w hd
 rw [run_callFunc_extern h1 h2 h3 h4 h5]
 unfold Ek.res at hr
 split at hr
 ·rename_i s c
  cases hr
  simp only [Dens, Den] at hd
  obtain ⟨y, ys, e1, rfl, y2, ys2, e2, rfl, rfl⟩ := hd
  subst e2
  have hx : xs = #[.string s, .int .u8 c] := by apply Array.ext'; simpa using e1
  subst hx
  refine ⟨_, by rw [Ek.fn, Lib.run_countString]; rfl, ?_⟩
  simp only [Den]
  rw [cnt_eq]; simp
 ·rename_i s c
  cases hr
  simp only [Dens, Den] at hd
  obtain ⟨y, ys, e1, rfl, y2, ys2, e2, rfl, rfl⟩ := hd
  subst e2
  have hx : xs = #[.string s, .int .u8 c] := by apply Array.ext'; simpa using e1
  subst hx
  refine ⟨_, by rw [Ek.fn, Lib.run_indexByteString]; rfl, ?_⟩
  simp only [Den]
  rw [idx_eq]
  have hge := Lib.indexByte_ge s.data.toList (UInt8.ofNat c.toNat)
  by_cases e : Lib.indexByte s.data.toList (UInt8.ofNat c.toNat) = -1
  ·simp [e]
  ·have e1 : (Lib.indexByte s.data.toList (UInt8.ofNat c.toNat) == -1) = false := by simpa using e
   rw [e1]; simp
 ·rename_i s t
  cases hr
  simp only [Dens, Den] at hd
  obtain ⟨y, ys, e1, rfl, y2, ys2, e2, rfl, rfl⟩ := hd
  subst e2
  have hx : xs = #[.string s, .string t] := by apply Array.ext'; simpa using e1
  subst hx
  refine ⟨_, by rw [Ek.fn, Lib.run_compareString]; rfl, ?_⟩
  simp only [Den]
  rw [cmp_eq]
 ·rename_i u
  cases hr
  simp only [Dens] at hd
  obtain ⟨y, ys, e1, h1, rfl⟩ := hd
  have hx : xs = #[y] := by apply Array.ext'; simpa using e1
  subst hx
  exact ⟨_, by rw [Ek.fn, Lib.run_noEscape]; rfl, h1⟩
 ·rename_i rt g l t u
  split at hr
  ·rename_i hm
   cases hr
   simp only [Dens, Den] at hd
   obtain ⟨y, ys, e1, ⟨z, rfl, _⟩, rfl⟩ := hd
   have hx : xs = #[.iface t z] := by apply Array.ext'; simpa using e1
   subst hx
   refine ⟨_, by rw [Ek.fn, h6 t (memNs_ok hm) z w]; rfl, ?_⟩
   simp only [Den]
   exact ⟨_, rfl, _, rfl, by simp only [Dens, Den]; exact ⟨_, _, rfl, rfl, rfl⟩⟩
  ·cases hr
 ·rename_i g l g' t
  split at hr
  ·rename_i hm
   cases hr
   simp only [Bool.and_eq_true] at hm
   have hg := Nat.eq_of_beq_eq_true hm.1
   subst hg
   simp only [Dens, Den] at hd
   obtain ⟨y, ys, e1, ⟨zs, rfl, z, zl, e2, rfl, rfl⟩, rfl⟩ := hd
   have hz : zs = #[.pointer (some ⟨g', t, none⟩)] := by apply Array.ext'; simpa using e2
   subst hz
   have hx : xs = #[.agg #[.pointer (some ⟨g', t, none⟩)]] := by apply Array.ext'; simpa using e1
   subst hx
   exact ⟨_, by rw [h6 t (memNs_ok hm.2) w]; rfl, by simp only [Den]⟩
  ·cases hr
 ·cases hr
def extPure (l : List (Nat × Ek)) : Pure := List.rec (motive := fun _ => Pure) (fun _ _ => none) (fun p _ ih g vs => Bool.rec (ih g vs) (p.2.res vs) (Nat.beq p.1 g)) l
theorem extPure_cons (k : Nat) (e : Ek) (l : List (Nat × Ek)) (g : FuncId) (vs : List AV) : extPure ((k, e) :: l) g vs = (match Nat.beq k g with
  | true => e.res vs
  | false => extPure l g vs) := by
 show (Bool.rec (extPure l g vs) (e.res vs) (Nat.beq k g) : Option AV) = _
 cases Nat.beq k g <;> rfl
theorem extPure_ok {P : Program} : ∀ {l : List (Nat × Ek)}, (∀ p ∈ l, ExtFn P p.1 p.2) → PureOK P (extPure l)
 | [], _, g, vs, v, h => by cases h
 | (k, e) :: l, hl, g, vs, v, h => by
  rw [extPure_cons] at h
  split at h
  ·rename_i hb
   have := Nat.eq_of_beq_eq_true hb
   subst this
   exact .inr (ext_ok (hl _ List.mem_cons_self) h)
  ·exact extPure_ok (fun p hp => hl p (List.mem_cons_of_mem _ hp)) h
def rdPure (rd : List Nat) (pu : Pure) : Pure := fun g vs => match vs with
 | [.ptr h _, .sl h' _] => match Nat.beq h h' && memNs g rd with
  | true => some .nilp
  | false => pu g vs
 | _ => pu g vs
end
end Go.SX
-- MERGED
-- SQUEEZED
