/- SX, part J: code. -/
import Derived.Test.YtglkoaajgekonaaGreatDoorSXI
namespace Go.SX
noncomputable section
def noGoto (c : Code) : Bool := Code.rec (motive := fun _ => Bool) true (fun _ _ _ => true) (fun _ _ a b => Bool.rec false b a) (fun _ _ _ a b => Bool.rec false b a) (fun _ _ a => a) (fun _ a => a) (fun _ _ _ _ _ _ => false) (fun _ => true) (fun _ a => a) (fun _ => true) (fun _ => false) true (fun _ => true) c
def RoAt (env0 : Env) (b : Nat) (rh ro : Option Nat) : Prop :=
 match rh, ro with
 | none, none => True
 | some h, some l => h < b ∧ env0 h = some (.pointer (some ⟨l, 0, none⟩))
 | _, _ => False
theorem RoAt.none_ {env0 : Env} {b : Nat} {ro : Option Nat} (h : RoAt env0 b none ro) : ro = none := by
 cases ro with
 | none => rfl
 | some l => exact h.elim
def Sem (P : Program) (rh : Option Nat) (c : Code) (Q : Exit → St → Prop) (s : St) : Prop :=
 ∀ (X Y : Nat → Prop) (w0 : World) (env0 : Env) (ro : Option Nat) (Qc : Exit → Act → World → Prop) (env : Env) (F : Foot) (a : Act) (w : World),
  RoAt env0 s.b rh ro → s.b ≤ s.n → (∀ h, h < s.b → env h = env0 h) → SatS env s F a w → Since X Y w0 s.H F w →
  (∀ e s' env' F' a' w', Q e s' → s'.b = s.b → s'.sz = s.sz → s'.b ≤ s'.n → (∀ h, h < s'.b → env' h = env0 h) → SatS env' s' F' a' w' → Since X Y w0 s'.H F' w' → Qc e a' w') → c.wpIn (Wd ro) 0 P Qc a w
def LoopStop (P : Program) (rh : Option Nat) (body : Code) (Q : Exit → St → Prop) (s : St) : Prop := staticC body = true → Sem P rh (.loop body) Q s
def ScopeStop (P : Program) (rh : Option Nat) (body : Code) (Q : Exit → St → Prop) (s : St) : Prop := staticC body = true → Sem P rh (.scope body) Q s
def RangeStop (P : Program) (rh : Option Nat) (f : Operand) (ps : Array Tmp) (as body : Code) (Q : Exit → St → Prop) (s : St) : Prop := staticC as = true → staticC body = true → Sem P rh (.rangeFunc f ps as body) Q s
def Ask (P : Program) (rh : Option Nat := none) : Ans Prop where
 rows := false
 dfr := false
 bad := False
 ob := fun p _ a => p ∧ a
 bc := bcase
 num := lit
 int := fun n K => K n
 str := fun s K => K s
 pre := fun _ _ _ d => d
 stop := Stop P
 call := CallStop P
 yld := YieldStop P
 loop := fun _ b Q s => LoopStop P rh b Q s
 scope := fun _ b Q s => ScopeStop P rh b Q s
 range := fun f ps as _ b Q s => RangeStop P rh f ps as b Q s
 num_eq := fun _ _ => lit_eq
 int_eq := fun _ _ => rfl
 str_eq := fun _ _ => rfl
structure CodeAns (P : Program) (rh : Option Nat) {α : Type} (A : Ans α) (tr : α → Prop) : Prop extends OpAns P A tr where
 dfr : A.dfr = true → rh = none
 loop : ∀ {vb b Q s}, (∀ {Q s}, tr (vb Q s) → Sem P rh b (fun e s => tr (Q e s)) s) → staticC b = true → tr (A.loop vb b Q s) → Sem P rh (.loop b) (fun e s => tr (Q e s)) s
 scope : ∀ {vb b Q s}, (∀ {Q s}, tr (vb Q s) → Sem P rh b (fun e s => tr (Q e s)) s) → staticC b = true → tr (A.scope vb b Q s) → Sem P rh (.scope b) (fun e s => tr (Q e s)) s
 range : ∀ {f ps as vb b Q s}, (∀ {Q s}, tr (vb Q s) → Sem P rh b (fun e s => tr (Q e s)) s) → staticC as = true → staticC b = true → tr (A.range f ps as vb b Q s) → Sem P rh (.rangeFunc f ps as b) (fun e s => tr (Q e s)) s
theorem askOK (P : Program) (rh : Option Nat := none) : CodeAns P rh (Ask P rh) (fun p => p) where
 bad := fun h => h
 ob := fun h => h
 bc := by
  intro b x y h
  cases b with
  | true => exact ⟨fun _ => h, fun e => by cases e⟩
  | false => exact ⟨fun e => (by cases e), fun _ => h⟩
 pre := fun h => .inr h
 stop := fun h => h
 call := fun h => h
 yld := fun h => h
 dfr := fun h => by cases h
 loop := fun _ hs h => h hs
 scope := fun _ hs h => h hs
 range := fun _ hs hs' h => h hs hs'
def regQ {α : Type} (A : Ans α) (ops : Array Oper) (draw : Bool) (Q : Exit → St → α) (s : St) : α :=
 match draw with
 | false => Q .normal s
 | true => match s with
  | ⟨fr, H, n, sz, df, log, b⟩ => match raceB ops.toList log with
   | true => Q .normal ⟨fr, H, n, sz, df, log, b⟩
   | false => A.bad
def seqQ {α : Type} (K : St → α) (Q : Exit → St → α) (e : Exit) (s : St) : α :=
 match e with
 | .normal => K s
 | e => Q e s
def blockQ {α : Type} (id : Nat) (Q : Exit → St → α) (e : Exit) (s : St) : α :=
 match e with
 | .exit i => match Nat.beq i id with
  | true => Q .normal s
  | false => Q (.exit i) s
 | e => Q e s
def scopeQ {α : Type} (A : Ans α) (Q : Exit → St → α) (e : Exit) (s : St) : α :=
 match e with
 | .goto _ => A.bad
 | e => Q e s
def vcCode {α : Type} (A : Ans α) (T : Tab) (c : Code) : (Exit → St → α) → St → α := Code.rec (motive := fun _ => (Exit → St → α) → St → α)
 (fun Q s => Q .normal s)
 (fun _ ops draw Q s => match s with
  | ⟨fr, H, n, sz, df, _, b⟩ => match draw with
   | true => vcOps A T ops ops.toList ⟨fr, H, n, sz, df, [], b⟩ (regQ A ops true Q)
   | false => vcOpsD A T ops ops.toList ⟨fr, H, n, sz, df, [], b⟩ (Q .normal))
 (fun _ _ ihx ihy Q s => ihx (seqQ (ihy Q) Q) s)
 (fun c _ _ ihx ihy Q s => match c, s with
  | .tmp t, ⟨fr, H, n, sz, df, log, b⟩ => match look fr t with
   | some (.bool v) => A.bc v (setB fr t true fun fr => ihx Q ⟨fr, H, n, sz, df, log, b⟩) (setB fr t false fun fr => ihy Q ⟨fr, H, n, sz, df, log, b⟩)
   | _ => A.bad
  | .const (.bool v), s => A.bc v (ihx Q s) (ihy Q s)
  | _, _ => A.bad)
 (fun id _ ih Q s => ih (blockQ id Q) s)
 (fun b ih Q s => A.loop ih b Q s)
 (fun f ps as b _ ihb Q s => A.range f ps as ihb b Q s)
 (fun i Q s => Q (.exit i) s)
 (fun b ih Q s => match noGoto b with
  | true => ih (scopeQ A Q) s
  | false => A.scope ih b Q s)
 (fun _ Q s => Q .normal s)
 (fun l Q s => Q (.goto l) s)
 (fun Q s => Q .ret s)
 (fun _ _ _ => A.bad) c
theorem vcCode_cond {α : Type} (A : Ans α) (T : Tab) (c : Operand) (x y : Code) (Q : Exit → St → α) (s : St) : vcCode A T (.cond c x y) Q s = (match c, s with
  | .tmp t, ⟨fr, H, n, sz, df, log, b⟩ => match look fr t with
   | some (.bool v) => A.bc v (setB fr t true fun fr => vcCode A T x Q ⟨fr, H, n, sz, df, log, b⟩) (setB fr t false fun fr => vcCode A T y Q ⟨fr, H, n, sz, df, log, b⟩)
   | _ => A.bad
  | .const (.bool v), s => A.bc v (vcCode A T x Q s) (vcCode A T y Q s)
  | _, _ => A.bad) := rfl
theorem vcCode_scope {α : Type} (A : Ans α) (T : Tab) (b : Code) (Q : Exit → St → α) (s : St) : vcCode A T (.scope b) Q s = (match noGoto b with
  | true => vcCode A T b (scopeQ A Q) s
  | false => A.scope (vcCode A T b) b Q s) := rfl
theorem vcCode_sound' {P : Program} {rh : Option Nat} {T : Tab} (hT : TabOK P T) (hm : P.follows .mixedOrders = true) {α : Type} {Z : Ans α} {tr : α → Prop} (hZ : CodeAns P rh Z tr) : ∀ (c : Code) {Q : Exit → St → α} {s : St}, tr (vcCode Z T c Q s) → staticC c = true → Sem P rh c (fun e s => tr (Q e s)) s
 | .skip, Q, s, h, _ => fun X Y w0 env0 ro Qc env F a w hro hb hbase hs hsi hq => wpIn_skip (hq _ _ _ _ _ _ h rfl rfl hb hbase hs hsi)
 | .label _, Q, s, h, _ => fun X Y w0 env0 ro Qc env F a w hro hb hbase hs hsi hq => wpIn_label (hq _ _ _ _ _ _ h rfl rfl hb hbase hs hsi)
 | .exit i, Q, s, h, _ => fun X Y w0 env0 ro Qc env F a w hro hb hbase hs hsi hq => wpIn_exit (hq _ _ _ _ _ _ h rfl rfl hb hbase hs hsi)
 | .goto i, Q, s, h, _ => fun X Y w0 env0 ro Qc env F a w hro hb hbase hs hsi hq => wpIn_goto (hq _ _ _ _ _ _ h rfl rfl hb hbase hs hsi)
 | .ret, Q, s, h, _ => fun X Y w0 env0 ro Qc env F a w hro hb hbase hs hsi hq => wpIn_ret (hq _ _ _ _ _ _ h rfl rfl hb hbase hs hsi)
 | .refuse _, _, _, h, _ => (hZ.bad h).elim
 | .rangeFunc f ps as b, Q, s, h, hst => by
  simp only [staticC, Bool.and_eq_true] at hst
  exact hZ.range (fun {_ _} h => vcCode_sound' hT hm hZ b h hst.2) hst.1 hst.2 h
 | .loop b, Q, s, h, hst => hZ.loop (fun {_ _} h => vcCode_sound' hT hm hZ b h hst) hst h
 | .scope b, Q, s, h, hst => by
  rw [vcCode_scope] at h
  split at h
  ·have ih := vcCode_sound' hT hm hZ b h hst
   intro X Y w0 env0 ro Qc env F a w hro hb hbase hs hsi hq
   refine wpIn_scope_straight (ih X Y w0 env0 ro _ env F a w hro hb hbase hs hsi ?_)
   intro e s' env' F' a' w' hQ h1 h2 h3 h4 h5 h6
   cases e with
   | goto l => exact (hZ.bad hQ).elim
   | _ => exact hq _ _ _ _ _ _ hQ h1 h2 h3 h4 h5 h6
  ·exact hZ.scope (fun {_ _} h => vcCode_sound' hT hm hZ b h hst) hst h
 | .block id b, Q, s, h, hst => by
  have ih := vcCode_sound' hT hm hZ b (Q := blockQ id Q) h hst
  intro X Y w0 env0 ro Qc env F a w hro hb hbase hs hsi hq
  refine wpIn_block (ih X Y w0 env0 ro _ env F a w hro hb hbase hs hsi ?_)
  intro e s' env' F' a' w' hQ h1 h2 h3 h4 h5 h6
  cases e with
  | exit i =>
   simp only [blockQ] at hQ
   split at hQ
   ·rename_i hb'
    have := Nat.eq_of_beq_eq_true hb'
    subst this
    simp only [Exit.inBlock, if_true]
    exact hq _ _ _ _ _ _ hQ h1 h2 h3 h4 h5 h6
   ·rename_i hb'
    have : i ≠ id := by rintro rfl; simp [Nat.beq_refl] at hb'
    simp only [Exit.inBlock, this, if_false]
    exact hq _ _ _ _ _ _ hQ h1 h2 h3 h4 h5 h6
  | _ => exact hq _ _ _ _ _ _ hQ h1 h2 h3 h4 h5 h6
 | .seq x y, Q, s, h, hst => by
  simp only [staticC, Bool.and_eq_true] at hst
  have ihx := vcCode_sound' hT hm hZ x (Q := seqQ (vcCode Z T y Q) Q) h hst.1
  intro X Y w0 env0 ro Qc env F a w hro hb hbase hs hsi hq
  refine wpIn_seq (ihx X Y w0 env0 ro _ env F a w hro hb hbase hs hsi ?_)
  intro e s' env' F' a' w' hQ h1 h2 h3 h4 h5 h6
  cases e with
  | normal =>
   refine vcCode_sound' hT hm hZ y hQ hst.2 X Y w0 env0 ro Qc env' F' a' w' (by rw [h1]; exact hro) h3 h4 h5 h6 ?_
   intro e s2 env2 F2 a2 w2 q k1 k2 k3 k4 k5 k6
   exact hq _ _ _ _ _ _ q (k1.trans h1) (k2.trans h2) k3 k4 k5 k6
  | _ => exact hq _ _ _ _ _ _ hQ h1 h2 h3 h4 h5 h6
 | .cond c x y, Q, s, h, hst => by
  simp only [staticC, Bool.and_eq_true] at hst
  intro X Y w0 env0 ro Qc env F a w hro hb hbase hs hsi hq
  rw [vcCode_cond] at h
  split at h
  ·rename_i t fr H n sz df log b
   split at h
   ·rename_i v hl
    obtain ⟨z, hz, hd⟩ := hs.val t _ hl
    simp only [Den] at hd
    subst hd
    have he : a.eval (.tmp t) = .bool v := by simp [Act.eval, Array.getD_eq_getD_getElem?, hz]
    refine wpIn_cond he ?_
    cases v with
    | true =>
     have h := (hZ.bc h).1 rfl
     rw [setB_eq hl] at h
     exact vcCode_sound' hT hm hZ x h hst.1 X Y w0 env0 ro Qc env F a w hro hb hbase hs hsi hq
    | false =>
     have h := (hZ.bc h).2 rfl
     rw [setB_eq hl] at h
     exact vcCode_sound' hT hm hZ y h hst.2 X Y w0 env0 ro Qc env F a w hro hb hbase hs hsi hq
   ·exact (hZ.bad h).elim
  ·rename_i v
   have he : a.eval (.const (.bool v)) = .bool v := rfl
   refine wpIn_cond he ?_
   cases v with
   | true => exact vcCode_sound' hT hm hZ x ((hZ.bc h).1 rfl) hst.1 X Y w0 env0 ro Qc env F a w hro hb hbase hs hsi hq
   | false => exact vcCode_sound' hT hm hZ y ((hZ.bc h).2 rfl) hst.2 X Y w0 env0 ro Qc env F a w hro hb hbase hs hsi hq
  ·exact (hZ.bad h).elim
 | .region id ops draw, Q, s, h, hst => by
  obtain ⟨fr, H, n, sz, df, log, b⟩ := s
  intro X Y w0 env0 ro Qc env F a w hro hb hbase hs hsi hq
  have hs0 : SatS env ⟨fr, H, n, sz, df, [], b⟩ F a w := ⟨hs.size, hs.defers, hs.val, hs.heap, hs.fresh⟩
  have fin : ∀ {s' : St}, s'.b = b → s'.sz = sz → n ≤ s'.n → ∀ (env' : Env) (F' : Foot) (a' : Act) (w' : World), tr (Q .normal s') → Ext n env env' → SatS env' s' F' a' w' → Since X Y w0 s'.H F' w' → Qc .normal a' w' := by
   intro s' g2 g1 g3 env' F' a' w' hQ he hs' hsi'
   refine hq _ _ _ _ _ _ hQ g2 g1 ?_ ?_ hs' hsi'
   ·simp only at g2 g3 hb; omega
   ·intro k hk'
    rw [g2] at hk'
    simp only at hb hk' hbase
    rw [he.old k (by omega)]
    exact hbase k hk'
  cases draw with
  | false =>
   have h : tr (vcOpsD Z T ops ops.toList ⟨fr, H, n, sz, df, [], b⟩ (Q .normal)) := h
   obtain ⟨s', hrun, hk⟩ := vcOpsD_run hT hZ.toOpAns h
   obtain ⟨g2, g1, g3⟩ := hrun.facts
   refine wpIn_region_list (seqD_sound (fun hd => by obtain rfl := hZ.dfr hd; exact hro.none_) hrun (X := X) (Y := Y) (w0 := w0) hs0 hsi fun env' F' a' w' he hs' hsi' => fin g2 g1 g3 env' F' a' w' hk he hs' hsi')
  | true =>
   have h : tr (vcOps Z T ops ops.toList ⟨fr, H, n, sz, df, [], b⟩ (regQ Z ops true Q)) := h
   obtain ⟨rs, s', hrun, hk⟩ := vcOps_run hT hZ.toOpAns h
   obtain ⟨-, g1, -, g2, g3, -, -, -, -, -, g4⟩ := hrun.facts
   obtain ⟨fr2, H2, n2, sz2, df2, log2, b2⟩ := s'
   simp only [regQ] at hk
   split at hk
   ·rename_i hr
    have hord : Ordered ops rs := by
     refine ordered_of hst ?_
     simp only [List.append_nil] at g4
     rw [← g4]; exact hr
    exact draw_sound hm hrun hord hs0 hsi fun env' F' a' w' he hs' hsi' => fin g2 g1 g3 env' F' a' w' hk he hs' hsi'
   ·exact (hZ.bad hk).elim
theorem vcCode_sound {P : Program} {rh : Option Nat} {T : Tab} (hT : TabOK P T) (hm : P.follows .mixedOrders = true) (c : Code) {Q : Exit → St → Prop} {s : St} (h : vcCode (Ask P rh) T c Q s) (hst : staticC c = true) : Sem P rh c Q s :=
 vcCode_sound' hT hm (askOK P rh) c h hst
end
end Go.SX
namespace Go.SX
noncomputable section
mutual
def renA (π : Nat → Nat) : AV → AV
 | .hd h => .hd (π h)
 | .sl h n => .sl (π h) n
 | .ptr h o => .ptr (π h) o
 | .el h z i o => .el (π h) z i o
 | .slc h o n c => .slc (π h) o n c
 | .sv h z i n c => .sv (π h) z i n c
 | .yld h => .yld (π h)
 | .agg l => .agg (renL π l)
 | .tup l => .tup (renL π l)
 | .iface t v => .iface t (renA π v)
 | .fn f l m => .fn f (renL π l) (renL π m)
 | .bool b => .bool b
 | .int k n => .int k n
 | .str s => .str s
 | .nilp => .nilp
 | .nils => .nils
 | .nilm => .nilm
 | .nilf => .nilf
 | .nili => .nili
 | .raw v => .raw v
def renL (π : Nat → Nat) : List AV → List AV
 | [] => []
 | v :: l => renA π v :: renL π l
end
mutual
theorem den_ren {π : Nat → Nat} {env : Env} : ∀ {v : AV} {x : Value}, Den env (renA π v) x ↔ Den (fun h => env (π h)) v x
 | .bool _, _ | .int _ _, _ | .str _, _ | .nilp, _ | .nils, _ | .nilm, _ | .nilf, _ | .nili, _ | .raw _, _ => by simp [renA, Den]
 | .hd _, _ | .sl _ _, _ | .ptr _ _, _ | .el _ _ _ _, _ | .slc _ _ _ _, _ | .sv _ _ _ _ _, _ | .yld _, _ => by simp only [renA, Den]
 | .agg l, x => by simp only [renA, Den]; exact ⟨fun ⟨xs, h1, h2⟩ => ⟨xs, h1, dens_ren.1 h2⟩, fun ⟨xs, h1, h2⟩ => ⟨xs, h1, dens_ren.2 h2⟩⟩
 | .tup l, x => by simp only [renA, Den]; exact ⟨fun ⟨xs, h1, h2⟩ => ⟨xs, h1, dens_ren.1 h2⟩, fun ⟨xs, h1, h2⟩ => ⟨xs, h1, dens_ren.2 h2⟩⟩
 | .iface t v, x => by simp only [renA, Den]; exact ⟨fun ⟨xs, h1, h2⟩ => ⟨xs, h1, den_ren.1 h2⟩, fun ⟨xs, h1, h2⟩ => ⟨xs, h1, den_ren.2 h2⟩⟩
 | .fn f l m, x => by simp only [renA, Den]; exact ⟨fun ⟨xs, ys, h1, h2, h3⟩ => ⟨xs, ys, h1, dens_ren.1 h2, dens_ren.1 h3⟩, fun ⟨xs, ys, h1, h2, h3⟩ => ⟨xs, ys, h1, dens_ren.2 h2, dens_ren.2 h3⟩⟩
theorem dens_ren {π : Nat → Nat} {env : Env} : ∀ {l : List AV} {xs : List Value}, Dens env (renL π l) xs ↔ Dens (fun h => env (π h)) l xs
 | [], xs => by simp [renL, Dens]
 | v :: l, xs => by simp only [renL, Dens]; exact ⟨fun ⟨y, ys, h1, h2, h3⟩ => ⟨y, ys, h1, den_ren.1 h2, dens_ren.1 h3⟩, fun ⟨y, ys, h1, h2, h3⟩ => ⟨y, ys, h1, den_ren.2 h2, dens_ren.2 h3⟩⟩
end
def renM (π : Nat → Nat) : List (AV × AV) → List (AV × AV)
 | [] => []
 | (k, v) :: l => (renA π k, renA π v) :: renM π l
theorem denM_ren {π : Nat → Nat} {env : Env} : ∀ {l : List (AV × AV)} {es : List MapEntry}, DenM env (renM π l) es ↔ DenM (fun h => env (π h)) l es
 | [], es => Iff.rfl
 | (k, v) :: l, es => by
  simp only [renM, DenM]
  exact ⟨fun ⟨e, t, h1, h2, h3, h4⟩ => ⟨e, t, h1, den_ren.1 h2, den_ren.1 h3, denM_ren.1 h4⟩, fun ⟨e, t, h1, h2, h3, h4⟩ => ⟨e, t, h1, den_ren.2 h2, den_ren.2 h3, denM_ren.2 h4⟩⟩
def renF (π : Nat → Nat) : List (Nat × AV) → List (Nat × AV)
 | [] => []
 | (t, v) :: l => (t, renA π v) :: renF π l
theorem look_renF {π : Nat → Nat} : ∀ {l : List (Nat × AV)} {t : Nat}, look (renF π l) t = (look l t).map (renA π)
 | [], t => rfl
 | (k, v) :: l, t => by
  simp only [renF, look_cons, look_renF]
  split <;> rfl
theorem loop_ren {π : Nat → Nat} {env : Env} {L : LoopR} {r : Loop} : LoopSat env { L with fr := renF π L.fr, dh := π L.dh } r ↔ LoopSat (fun h => env (π h)) L r := by
 constructor
 ·intro h
  refine ⟨h.sz, h.ps, h.as, h.body, h.st, h.pend, h.dh, fun t v hv => ?_, h.stat⟩
  obtain ⟨x, h1, h2⟩ := h.fr t (renA π v) (by show look (renF π L.fr) t = _; rw [look_renF, hv]; rfl)
  exact ⟨x, h1, den_ren.1 h2⟩
 ·intro h
  refine ⟨h.sz, h.ps, h.as, h.body, h.st, h.pend, h.dh, fun t v hv => ?_, h.stat⟩
  have hv : look (renF π L.fr) t = some v := hv
  rw [look_renF] at hv
  cases hq : look L.fr t with
  | none => rw [hq] at hv; cases hv
  | some u =>
   rw [hq] at hv; cases hv
   obtain ⟨x, h1, h2⟩ := h.fr t u hq
   exact ⟨x, h1, den_ren.2 h2⟩
def renR (π : Nat → Nat) : Res → Res
 | .dblk => .dblk
 | .loop L => .loop { L with fr := renF π L.fr, dh := π L.dh }
 | .gone => .gone
 | .box e cs => .box e (renL π cs)
 | .abs A => .abs A
 | .row e z cs f => .row e z (renL π cs) f
 | .map es => .map (renM π es)
 | .rmap es todo cur it => .rmap (renM π es) (renM π todo) (renM π cur) (π it)
 | .iter m => .iter (π m)
theorem sat_ren {π : Nat → Nat} {env : Env} {v : Value} {F : Nat → Prop} {w : World} : ∀ {r : Res}, (renR π r).sat env v F w ↔ r.sat (fun h => env (π h)) v F w
 | .dblk => Iff.rfl
 | .loop L => by
  simp only [renR, Res.sat]
  constructor
  ·rintro ⟨b, r, h1, h2, h3, h4⟩; exact ⟨b, r, h1, h2, h3, loop_ren.1 h4⟩
  ·rintro ⟨b, r, h1, h2, h3, h4⟩; exact ⟨b, r, h1, h2, h3, loop_ren.2 h4⟩
 | .gone => Iff.rfl
 | .box e cs => by
  simp only [renR, Res.sat]
  constructor
  ·rintro ⟨b, xs, h1, h2, h3, h4⟩; exact ⟨b, xs, h1, h2, h3, dens_ren.1 h4⟩
  ·rintro ⟨b, xs, h1, h2, h3, h4⟩; exact ⟨b, xs, h1, h2, h3, dens_ren.2 h4⟩
 | .abs A => Iff.rfl
 | .row e z cs f => by
  simp only [renR, Res.sat]
  constructor
  ·rintro ⟨b, o, m, C, xs, lo, hi, ys, tl, h1, h2, h3, h4, h5, h6, h7, h8⟩; exact ⟨b, o, m, C, xs, lo, hi, ys, tl, h1, h2, h3, h4, h5, h6, dens_ren.1 h7, h8⟩
  ·rintro ⟨b, o, m, C, xs, lo, hi, ys, tl, h1, h2, h3, h4, h5, h6, h7, h8⟩; exact ⟨b, o, m, C, xs, lo, hi, ys, tl, h1, h2, h3, h4, h5, h6, dens_ren.2 h7, h8⟩
 | .map es => by
  simp only [renR, Res.sat]
  constructor
  ·rintro ⟨b, xs, c, h1, h2, h3, h4, h5⟩; exact ⟨b, xs, c, h1, h2, h3, denM_ren.1 h4, h5⟩
  ·rintro ⟨b, xs, c, h1, h2, h3, h4, h5⟩; exact ⟨b, xs, c, h1, h2, h3, denM_ren.2 h4, h5⟩
 | .rmap es todo cur it => by
  simp only [renR, Res.sat]
  constructor
  ·rintro ⟨b, r, xs, c, s, n, h1, h0, h2, h3, h4, h5, h6, h7, h8, h9, h10⟩; exact ⟨b, r, xs, c, s, n, h1, h0, h2, h3, h4, h5, denM_ren.1 h6, h7, h8, denM_ren.1 h9, denM_ren.1 h10⟩
  ·rintro ⟨b, r, xs, c, s, n, h1, h0, h2, h3, h4, h5, h6, h7, h8, h9, h10⟩; exact ⟨b, r, xs, c, s, n, h1, h0, h2, h3, h4, h5, denM_ren.2 h6, h7, h8, denM_ren.2 h9, denM_ren.2 h10⟩
 | .iter m => Iff.rfl
theorem excl_ren (π : Nat → Nat) (r : Res) : (renR π r).excl = r.excl := by cases r <;> rfl
def renH (π : Nat → Nat) : Heap → Heap
 | [] => []
 | (h, r) :: H => (π h, renR π r) :: renH π H
theorem look_renH {π : Nat → Nat} (hπ : ∀ a b, π a = π b → a = b) : ∀ {H : Heap} {h : Nat}, look (renH π H) (π h) = (look H h).map (renR π)
 | [], h => by simp [renH, lookN]
 | (k, r) :: H, h => by
  simp only [renH, look_cons]
  by_cases e : k = h
  ·subst e; simp
  ·have : π k ≠ π h := fun e' => e (hπ _ _ e')
   simp only [e, this, if_false]
   exact look_renH hπ
theorem look_renH_of {π : Nat → Nat} (hπ : ∀ a b, π a = π b → a = b) : ∀ {H : Heap} {k : Nat} {r : Res}, look (renH π H) k = some r → ∃ h r0, k = π h ∧ look H h = some r0 ∧ r = renR π r0
 | [], k, r, h => by simp [renH, lookN] at h
 | (a, r') :: H, k, r, h => by
  simp only [renH, look_cons] at h
  split at h
  ·rename_i e; cases h; exact ⟨a, r', e.symm, by simp [lookC, Nat.beq_refl], rfl⟩
  ·rename_i hne
   obtain ⟨b, r0, h1, h2, h3⟩ := look_renH_of hπ h
   refine ⟨b, r0, h1, ?_, h3⟩
   rw [look_cons, if_neg]
   ·exact h2
   ·rintro rfl; exact hne h1.symm
theorem look_map_dom {α : Type} : ∀ {l : List (Nat × α)} {h : Nat} {x : α}, look l h = some x → h ∈ l.map (·.1)
 | [], _, _, hl => by simp [lookN] at hl
 | (k, v) :: l, h, x, hl => by
  rw [look_cons] at hl
  split at hl
  ·rename_i e; simp [e]
  ·exact List.mem_cons_of_mem _ (look_map_dom hl)
def domB (pre post : Heap) : Bool := pre.all fun p => post.any fun q => Nat.beq p.1 q.1
theorem domB_ok {pre post : Heap} (h : domB pre post = true) : ∀ k x, look pre k = some x → ∃ x', look post k = some x' := by
 intro k x hk
 have hm := look_map_dom hk
 rw [List.mem_map] at hm
 obtain ⟨p, hp, rfl⟩ := hm
 have := List.all_eq_true.1 h p hp
 rw [List.any_eq_true] at this
 obtain ⟨q, hq, hb⟩ := this
 have hb := Nat.eq_of_beq_eq_true hb
 have key : ∀ {l : Heap} {k : Nat}, (∃ q ∈ l, k = q.1) → ∃ x', look l k = some x' := by
  intro l
  induction l with
  | nil => rintro k ⟨q, hq, _⟩; cases hq
  | cons c l ih =>
   rintro k ⟨q, hq, rfl⟩
   obtain ⟨a, r⟩ := c
   rw [look_cons]
   by_cases e : a = q.1
   ·exact ⟨r, by simp [e]⟩
   ·rcases List.mem_cons.1 hq with rfl | hq
    ·exact absurd rfl e
    ·obtain ⟨x', hx⟩ := ih ⟨q, hq, rfl⟩
     exact ⟨x', by simp [e, hx]⟩
 exact key ⟨q, hq, hb⟩
theorem run_callFunc {P : Program} {g : FuncId} {xs : Array Value} {w : World} {fn : Func} (hf : P.funcs[g]? = some fn) (hnm : (fn.name == "runtime.NumGoroutine") = false) (hb : fn.body.isNone = false) :
  (callFunc g xs).run P w = .ok (.enter g xs) w := by
 unfold callFunc
 simp only [Sem.run_bind, run_program, Result.andThen_ok, hf, hnm, hb, Bool.false_eq_true, if_false]
 rfl
def HasBody (P : Program) (g : FuncId) : Bool :=
 match P.funcs[g]? with
 | some fn => !(fn.name == "runtime.NumGoroutine") && fn.body.isSome
 | none => false
theorem hasBody_run {P : Program} {g : FuncId} (h : HasBody P g = true) (xs : Array Value) (w : World) : (callFunc g xs).run P w = .ok (.enter g xs) w := by
 unfold HasBody at h
 split at h
 ·rename_i fn hf
  simp only [Bool.and_eq_true, Bool.not_eq_true'] at h
  exact run_callFunc hf h.1 (by cases hb : fn.body <;> simp [hb] at h ⊢)
 ·cases h
def Ctr (P : Program) (f : FuncId) (args : List AV) (R pre : Heap) (n n' : Nat) (r : AV) (post : Heap) : Prop :=
 HasBody P f = true ∧ n ≤ n' ∧ domB pre post = true ∧ ∀ (env : Env) (F : Foot) (w : World) (xs : Array Value), Dens env args xs.toList → SatH env (pre ++ R) F w → (∀ h, n ≤ h → h < n' → env h = none) →
  Calls P f xs w fun e w' => ∃ env' F' x, e = .returned x ∧ Turn n n' R pre post env F w env' F' w' ∧ Den env' r x
def sg (σ : List Nat) (N : Nat) (h : Nat) : Nat :=
 match nth σ h with
 | some k => k
 | none => N + (h - σ.length)
def nodupB : List Nat → Bool
 | [] => true
 | k :: l => !(l.any (Nat.beq k)) && nodupB l
theorem nodupB_inj : ∀ {l : List Nat}, nodupB l = true → ∀ {i j k : Nat}, l[i]? = some k → l[j]? = some k → i = j
 | [], _, i, _, _, h, _ => by simp at h
 | x :: l, hn, i, j, k, hi, hj => by
  simp only [nodupB, Bool.and_eq_true, Bool.not_eq_true'] at hn
  have key : ∀ {m : Nat}, l[m]? = some x → False := by
   intro m hm
   have : x ∈ l := List.mem_of_getElem? hm
   rw [any_beq this] at hn
   cases hn.1
  cases i with
  | zero =>
   simp at hi; subst hi
   cases j with
   | zero => rfl
   | succ j => simp at hj; exact (key hj).elim
  | succ i =>
   simp at hi
   cases j with
   | zero => simp at hj; subst hj; exact (key hi).elim
   | succ j => simp at hj; rw [nodupB_inj hn.2 hi hj]
theorem sg_inj {σ : List Nat} {N : Nat} (hn : nodupB σ = true) (hlt : σ.all (fun k => Nat.blt k N) = true) : ∀ a b, sg σ N a = sg σ N b → a = b := by
 have hl : ∀ {i k : Nat}, σ[i]? = some k → k < N := by
  intro i k h
  have := List.all_eq_true.1 hlt k (List.mem_of_getElem? h)
  simpa using this
 intro a b h
 unfold sg at h
 rw [nth_eq, nth_eq] at h
 cases ha : σ[a]? with
 | some k =>
  cases hb : σ[b]? with
  | some k' =>
   rw [ha, hb] at h
   simp only at h
   subst h
   exact nodupB_inj hn ha hb
  | none =>
   rw [ha, hb] at h
   simp only at h
   have := hl ha; omega
 | none =>
  have la := List.getElem?_eq_none_iff.1 ha
  cases hb : σ[b]? with
  | some k' =>
   rw [ha, hb] at h
   simp only at h
   have := hl hb; omega
  | none =>
   have lb := List.getElem?_eq_none_iff.1 hb
   rw [ha, hb] at h
   simp only at h
   omega
def HasAll (H : Heap) (π : Nat → Nat) : Heap → Prop
 | [] => True
 | (h, r) :: l => look H (π h) = some (renR π r) ∧ HasAll H π l
theorem HasAll.sub {H : Heap} {π : Nat → Nat} : ∀ {l : Heap}, HasAll H π l → ∀ {h r}, look l h = some r → look H (π h) = some (renR π r)
 | [], _, h, r, hl => by simp [lookN] at hl
 | (k, r') :: l, ⟨h1, h2⟩, h, r, hl => by
  rw [look_cons] at hl
  split at hl
  ·rename_i e; subst e; cases hl; exact h1
  ·exact HasAll.sub h2 hl
theorem evs_call {env : Env} {o : Oper} {fr : Fr} {a : Act} {g : FuncId} {vs : List AV} (hn : Need env o fr a) (h : IsCall o fr g vs) :
  ∃ xs : Array Value, Dens env vs xs.toList ∧ ∀ (P : Program) (w : World), (execOp a.eval o).run P w = (callFunc g xs).run P w := by
 obtain ⟨c, f, first, us, cap, h1, h2, h3, h4, rfl⟩ := h
 have hf : f ∈ o.op.operands := by rw [h1]; simp [Op.operands, Call.operands, h2]
 have d1 := ev_den hn hf h3
 have d2 := evs_den hn (by intro x hx; rw [h1]; simp only [Op.operands, Call.operands]; exact Array.mem_append.2 (.inr (by simpa using hx))) h4
 simp only [Den] at d1
 obtain ⟨xs, ys, hx, d3, d4⟩ := d1
 refine ⟨xs ++ c.args.map a.eval ++ ys, ?_, ?_⟩
 ·have := d3.append (d2.append d4)
  simpa using this
 ·intro P w
  simp [execOp, h1, resolve, h2, hx, Deferred.ofValue, invoke]
def keysOf (H : Heap) : List Nat := H.map (·.1)
def pushH (P : Program) (π : Nat → Nat) : Heap → Heap → (Heap → Prop) → Prop
 | [], H, K => K H
 | (h, r) :: l, H, K => pushH P π l H fun H => lit (π h) fun h => match r with
  | .dblk => K ((h, .dblk) :: H)
  | .loop L => K ((h, .loop { L with fr := renF π L.fr, dh := π L.dh }) :: H)
  | .gone => K ((h, .gone) :: H)
  | .box e cs => forceL (force1 (Ask P)) (renL π cs) fun cs => K ((h, .box e cs) :: H)
  | .abs A => K ((h, .abs A) :: H)
  | .row e z cs f => forceL (force1 (Ask P)) (renL π cs) fun cs => K ((h, .row e z cs f) :: H)
  | .map es => spine (renM π es) fun es => K ((h, .map es) :: H)
  | .rmap es todo cur it => K ((h, .rmap (renM π es) (renM π todo) (renM π cur) (π it)) :: H)
  | .iter m => K ((h, .iter (π m)) :: H)
theorem pushH_eq {P : Program} {π : Nat → Nat} : ∀ {l H : Heap} {K : Heap → Prop}, pushH P π l H K = K (renH π l ++ H)
 | [], H, K => by simp [pushH, renH]
 | (h, r) :: l, H, K => by
  simp only [pushH, pushH_eq, lit_eq]
  cases r <;> simp [renH, renR, forceL_eq (fun _ _ => force1_eq), spine_eq]
def callB (σ : List Nat) (n N : Nat) : Bool := Nat.beq σ.length n && (nodupB σ && σ.all fun k => Nat.blt k N)
theorem call {P : Program} {g : FuncId} {args vs : List AV} {R pre post : Heap} {n n' : Nat} {r : AV} {o : Oper} {fr : Fr} {H : Heap} {N sz : Nat} {df : List Df}
  {log : List (List Nat × List Nat)} {b : Nat} {K : St → Prop} (σ : List Nat) (spec : Ctr P g args R pre n n' r post)
  (hK : pushH P (sg σ N) post H fun H' => putM (Ask P) o (renA (sg σ N) r) fr H' (N + (n' - n)) sz df log b (keysOf (renH (sg σ N) R)) (keysOf (renH (sg σ N) post)) K)
  (hargs : renL (sg σ N) args = vs := by rfl) (hcb : callB σ n N = true := by rfl)
  (hR : HasAll H (sg σ N) R := by (repeat (first | exact trivial | refine ⟨rfl, ?_⟩))) (hp : HasAll H (sg σ N) pre := by (repeat (first | exact trivial | refine ⟨rfl, ?_⟩))) :
  CallStop P g vs o ⟨fr, H, N, sz, df, log, b⟩ K := by
 simp only [callB, Bool.and_eq_true] at hcb
 obtain ⟨hσ, hnd, hlt⟩ := hcb
 have hσ := Nat.eq_of_beq_eq_true hσ
 obtain ⟨hbody, hnn, hdom, spec⟩ := spec
 intro hcall
 rw [pushH_eq] at hK
 obtain ⟨k1, k2⟩ := putM_iff (askOK P).toOpAns hK
 have hinj := sg_inj hnd hlt
 generalize hπ : sg σ N = π at *
 have hπlt : ∀ h, h < n → π h < N := by
  intro h hh
  rw [← hπ]; unfold sg; rw [nth_eq]
  have : h < σ.length := by omega
  rw [List.getElem?_eq_getElem this]
  have := List.all_eq_true.1 hlt σ[h] (List.getElem_mem this)
  simpa using this
 have hπge : ∀ h, n ≤ h → π h = N + (h - n) := by
  intro h hh
  rw [← hπ]; unfold sg; rw [nth_eq, List.getElem?_eq_none (by omega), hσ]
 refine ⟨⟨true, renH π R, renH π pre, renH π post, N, N + (n' - n), renA π r, keysOf (renH π R), keysOf (renH π post)⟩, rfl, rfl, by simp, k1, Triple.y ?_, ?_, ?_, ?_, ?_, ?_, k2⟩
 ·intro env F a w next Q hneed hsat hfresh hk
  obtain ⟨xs, hx, hrun⟩ := evs_call hneed hcall
  rw [← hargs] at hx
  have hlook : ∀ {h : Nat} {r0 : Res}, look (pre ++ R) h = some r0 → look (renH π pre ++ renH π R) (π h) = some (renR π r0) := by
   intro h r0 hl
   rw [look_append] at hl ⊢
   rw [look_renH hinj, look_renH hinj]
   cases hq : look pre h with
   | some y => rw [hq] at hl; simp at hl; subst hl; simp
   | none => rw [hq] at hl; simp at hl; simp [hl]
  have hsatC : SatH (fun h => env (π h)) (pre ++ R) (fun h => F (π h)) w := by
   refine ⟨?_, ?_⟩
   ·intro h r0 hl
    obtain ⟨v, hv, hs⟩ := hsat.sat (hlook hl)
    exact ⟨v, hv, sat_ren.1 hs⟩
   ·intro h r0 h' r1 hl hl' hne he b0 hb0
    exact hsat.apart (hlook hl) (hlook hl') (fun e => hne (hinj _ _ e)) (by rw [excl_ren]; exact he) b0 hb0
  have hC := spec (fun h => env (π h)) (fun h => F (π h)) w xs (dens_ren.1 hx) hsatC (fun h h1 h2 => by
   rw [hπge h h1]; exact hfresh _ (by show N ≤ _; omega) (by show _ < N + (n' - n); omega))
  unfold Oper.wp
  rw [hrun, hasBody_run hbody]
  refine Calls.mono hC ?_
  rintro e w' ⟨envC, FC, x, rfl, t, hden⟩
  let env' : Env := fun k => if N ≤ k ∧ k < N + (n' - n) then envC (k - N + n) else env k
  let F' : Foot := fun k b0 => ∃ h, π h = k ∧ FC h b0 ∧ ∃ r0, look post h = some r0
  have hcomp : (fun h => env' (π h)) = envC := by
   funext h
   simp only [env']
   by_cases hh : h < n
   ·have := hπlt h hh
    rw [if_neg (by omega), t.only h (by omega)]
   ·rw [hπge h (by omega)]
    by_cases hh2 : h < n'
    ·rw [if_pos (by omega)]; congr 1; omega
    ·rw [if_neg (by omega), t.only h (by omega), hπge h (by omega)]
  have hle : env.le env' := by
   intro k v hv
   simp only [env']
   split
   ·rename_i hk2
    rw [hfresh k hk2.1 hk2.2] at hv; cases hv
   ·exact hv
  refine hk env' F' x w' ⟨hle, ?_, ⟨?_, ?_⟩, ?_, ?_⟩ (by rw [den_ren, hcomp]; exact hden)
  ·intro k hk2; simp only [env']; rw [if_neg hk2]
  ·intro k r0 hl
   obtain ⟨h, r1, rfl, h1, rfl⟩ := look_renH_of hinj hl
   obtain ⟨v, hv, hs⟩ := t.sat.sat h1
   refine ⟨v, ?_, ?_⟩
   ·have := congrFun hcomp h; rw [show env' (π h) = envC h from this]; exact hv
   ·rw [sat_ren, hcomp]
    have : F' (π h) = FC h := by
     funext b0
     simp only [F', eq_iff_iff]
     constructor
     ·rintro ⟨h', e1, e2, _⟩; rw [← hinj _ _ e1]; exact e2
     ·intro e; exact ⟨h, rfl, e, r1, h1⟩
    rw [this]; exact hs
  ·intro k r0 k' r0' hl hl' hne he b0
   obtain ⟨h, r1, rfl, h1, rfl⟩ := look_renH_of hinj hl
   obtain ⟨h', r1', rfl, h1', rfl⟩ := look_renH_of hinj hl'
   rintro ⟨i, e1, e2, _⟩ ⟨i', e1', e2', _⟩
   rw [hinj _ _ e1] at e2; rw [hinj _ _ e1'] at e2'
   rw [excl_ren] at he
   exact t.sat.apart h1 h1' (fun e => hne (by rw [e])) he b0 e2 e2'
  ·intro k r0 b0 hl
   obtain ⟨h, r1, rfl, h1, rfl⟩ := look_renH_of hinj hl
   rintro ⟨i, e1, e2, _⟩
   rw [hinj _ _ e1] at e2
   rcases t.owns h1 e2 with ⟨h0, q0, q1, q2, q3⟩ | ⟨h0, q0, q1, q2, q3, q4⟩ | q
   ·exact .inl ⟨π h0, renR π q0, by rw [look_renH hinj, q1]; rfl, q2, by rw [excl_ren, excl_ren]; exact q3⟩
   ·exact .inr (.inl ⟨π h0, renR π q0, by rw [look_renH hinj, q1]; rfl, q2, by rw [excl_ren]; exact q3, by rw [excl_ren]; exact q4⟩)
   ·exact .inr (.inr q)
  ·refine t.frame.mono ?_
   rintro b0 ⟨h, q0, q1, q2, q3⟩
   exact ⟨π h, renR π q0, by rw [look_renH hinj, q1]; rfl, by rw [excl_ren]; exact q2, q3⟩
 ·intro k x hk
  obtain ⟨h, r1, rfl, h1, rfl⟩ := look_renH_of hinj hk
  exact hR.sub h1
 ·intro k x hk
  obtain ⟨h, r1, rfl, h1, rfl⟩ := look_renH_of hinj hk
  exact hp.sub h1
 ·intro k x hk
  obtain ⟨h, r1, rfl, h1, rfl⟩ := look_renH_of hinj hk
  obtain ⟨x', hx'⟩ := domB_ok hdom h r1 h1
  exact ⟨renR π x', by simp only; rw [look_renH hinj, hx']; rfl⟩
 ·intro k x hk; exact look_map_dom hk
 ·intro k x hk; exact look_map_dom hk
end
end Go.SX
-- MERGED
-- SQUEEZED
