/- SX, part J: code. -/
import Derived.Test.YthmiaipampdegaaGreatDoorSXI
namespace Go.SX
noncomputable section

def noGoto (c : Code) : Bool := Code.rec (motive := fun _ => Bool) true (fun _ _ _ => true) (fun _ _ a b => Bool.rec false b a) (fun _ _ _ a b => Bool.rec false b a) (fun _ _ a => a) (fun _ a => a) (fun _ _ _ _ _ _ => false) (fun _ => true) (fun _ a => a) (fun _ => true) (fun _ => false) true (fun _ => true) c

/-- The frame's kind: a function's; a round's of the loop behind handle h. -/
def RoAt (env0 : Env) (b : Nat) (rh ro : Option Nat) : Prop :=
  match rh, ro with
  | none, none => True
  | some h, some l => h < b ∧ env0 h = some (.pointer (some ⟨l, 0, none⟩))
  | _, _ => False

theorem RoAt.none_ {env0 : Env} {b : Nat} {ro : Option Nat} (h : RoAt env0 b none ro) : ro = none := by
  cases ro with
  | none => rfl
  | some l => exact h.elim

/-- What a piece of code does, from state s on; the first s.b handles are the caller's. -/
def Sem (P : Program) (rh : Option Nat) (c : Code) (Q : Exit → St → Prop) (s : St) : Prop :=
  ∀ (X Y : Nat → Prop) (w0 : World) (env0 : Env) (ro : Option Nat) (Qc : Exit → Act → World → Prop) (env : Env) (F : Foot) (a : Act) (w : World),
    RoAt env0 s.b rh ro → s.b ≤ s.n → (∀ h, h < s.b → env h = env0 h) → SatS env s F a w → Since X Y w0 s.H F w →
    (∀ e s' env' F' a' w', Q e s' → s'.b = s.b → s'.sz = s.sz → s'.b ≤ s'.n → (∀ h, h < s'.b → env' h = env0 h) → SatS env' s' F' a' w' → Since X Y w0 s'.H F' w' → Qc e a' w') → c.wpIn (Wd ro) 0 P Qc a w

def LoopStop (P : Program) (rh : Option Nat) (body : Code) (Q : Exit → St → Prop) (s : St) : Prop := staticC body = true → Sem P rh (.loop body) Q s
def ScopeStop (P : Program) (rh : Option Nat) (body : Code) (Q : Exit → St → Prop) (s : St) : Prop := staticC body = true → Sem P rh (.scope body) Q s
def RangeStop (P : Program) (rh : Option Nat) (f : Operand) (ps : Array Tmp) (as body : Code) (Q : Exit → St → Prop) (s : St) : Prop := staticC as = true → staticC body = true → Sem P rh (.rangeFunc f ps as body) Q s

/-- The answer by a proposition. -/
def Ask (P : Program) (rh : Option Nat := none) : Ans Prop where
  rows := false
  dfr := false
  bad := False
  ob := fun p _ a => p ∧ a
  bc := bcase
  num := lit
  int := fun n K => K n
  str := fun s K => K s
  pre := fun _ _ _ d => d
  stop := Stop P
  call := CallStop P
  yld := YieldStop P
  loop := fun _ b Q s => LoopStop P rh b Q s
  scope := fun _ b Q s => ScopeStop P rh b Q s
  range := fun f ps as _ b Q s => RangeStop P rh f ps as b Q s
  num_eq := fun _ _ => lit_eq
  int_eq := fun _ _ => rfl
  str_eq := fun _ _ => rfl

structure CodeAns (P : Program) (rh : Option Nat) {α : Type} (A : Ans α) (tr : α → Prop) : Prop extends OpAns P A tr where
  dfr : A.dfr = true → rh = none
  loop : ∀ {vb b Q s}, (∀ {Q s}, tr (vb Q s) → Sem P rh b (fun e s => tr (Q e s)) s) → staticC b = true → tr (A.loop vb b Q s) → Sem P rh (.loop b) (fun e s => tr (Q e s)) s
  scope : ∀ {vb b Q s}, (∀ {Q s}, tr (vb Q s) → Sem P rh b (fun e s => tr (Q e s)) s) → staticC b = true → tr (A.scope vb b Q s) → Sem P rh (.scope b) (fun e s => tr (Q e s)) s
  range : ∀ {f ps as vb b Q s}, (∀ {Q s}, tr (vb Q s) → Sem P rh b (fun e s => tr (Q e s)) s) → staticC as = true → staticC b = true → tr (A.range f ps as vb b Q s) → Sem P rh (.rangeFunc f ps as b) (fun e s => tr (Q e s)) s

theorem askOK (P : Program) (rh : Option Nat := none) : CodeAns P rh (Ask P rh) (fun p => p) where
  bad := fun h => h
  ob := fun h => h
  bc := by
    intro b x y h
    cases b with
    | true => exact ⟨fun _ => h, fun e => by cases e⟩
    | false => exact ⟨fun e => (by cases e), fun _ => h⟩
  pre := fun h => .inr h
  stop := fun h => h
  call := fun h => h
  yld := fun h => h
  dfr := fun h => by cases h
  loop := fun _ hs h => h hs
  scope := fun _ hs h => h hs
  range := fun _ hs hs' h => h hs hs'

def regQ {α : Type} (A : Ans α) (ops : Array Oper) (draw : Bool) (Q : Exit → St → α) (s : St) : α :=
  match draw with
  | false => Q .normal s
  | true => match s with
    | ⟨fr, H, n, sz, df, log, b⟩ => match raceB ops.toList log with
      | true => Q .normal ⟨fr, H, n, sz, df, log, b⟩
      | false => A.bad

def seqQ {α : Type} (K : St → α) (Q : Exit → St → α) (e : Exit) (s : St) : α :=
  match e with
  | .normal => K s
  | e => Q e s

def blockQ {α : Type} (id : Nat) (Q : Exit → St → α) (e : Exit) (s : St) : α :=
  match e with
  | .exit i => match Nat.beq i id with
    | true => Q .normal s
    | false => Q (.exit i) s
  | e => Q e s

def scopeQ {α : Type} (A : Ans α) (Q : Exit → St → α) (e : Exit) (s : St) : α :=
  match e with
  | .goto _ => A.bad
  | e => Q e s

def vcCode {α : Type} (A : Ans α) (T : Tab) (c : Code) : (Exit → St → α) → St → α := Code.rec (motive := fun _ => (Exit → St → α) → St → α)
  (fun Q s => Q .normal s)
  (fun _ ops draw Q s => match s with
    | ⟨fr, H, n, sz, df, _, b⟩ => match draw with
      | true => vcOps A T ops ops.toList ⟨fr, H, n, sz, df, [], b⟩ (regQ A ops true Q)
      | false => vcOpsD A T ops ops.toList ⟨fr, H, n, sz, df, [], b⟩ (Q .normal))
  (fun _ _ ihx ihy Q s => ihx (seqQ (ihy Q) Q) s)
  (fun c _ _ ihx ihy Q s => match c, s with
    | .tmp t, ⟨fr, H, n, sz, df, log, b⟩ => match look fr t with
      | some (.bool v) => A.bc v (setB fr t true fun fr => ihx Q ⟨fr, H, n, sz, df, log, b⟩) (setB fr t false fun fr => ihy Q ⟨fr, H, n, sz, df, log, b⟩)
      | _ => A.bad
    | .const (.bool v), s => A.bc v (ihx Q s) (ihy Q s)
    | _, _ => A.bad)
  (fun id _ ih Q s => ih (blockQ id Q) s)
  (fun b ih Q s => A.loop ih b Q s)
  (fun f ps as b _ ihb Q s => A.range f ps as ihb b Q s)
  (fun i Q s => Q (.exit i) s)
  (fun b ih Q s => match noGoto b with
    | true => ih (scopeQ A Q) s
    | false => A.scope ih b Q s)
  (fun _ Q s => Q .normal s)
  (fun l Q s => Q (.goto l) s)
  (fun Q s => Q .ret s)
  (fun _ _ _ => A.bad) c

theorem vcCode_cond {α : Type} (A : Ans α) (T : Tab) (c : Operand) (x y : Code) (Q : Exit → St → α) (s : St) : vcCode A T (.cond c x y) Q s = (match c, s with
    | .tmp t, ⟨fr, H, n, sz, df, log, b⟩ => match look fr t with
      | some (.bool v) => A.bc v (setB fr t true fun fr => vcCode A T x Q ⟨fr, H, n, sz, df, log, b⟩) (setB fr t false fun fr => vcCode A T y Q ⟨fr, H, n, sz, df, log, b⟩)
      | _ => A.bad
    | .const (.bool v), s => A.bc v (vcCode A T x Q s) (vcCode A T y Q s)
    | _, _ => A.bad) := rfl
theorem vcCode_scope {α : Type} (A : Ans α) (T : Tab) (b : Code) (Q : Exit → St → α) (s : St) : vcCode A T (.scope b) Q s = (match noGoto b with
    | true => vcCode A T b (scopeQ A Q) s
    | false => A.scope (vcCode A T b) b Q s) := rfl

theorem vcCode_sound' {P : Program} {rh : Option Nat} {T : Tab} (hT : TabOK P T) (hm : P.follows .mixedOrders = true) {α : Type} {Z : Ans α} {tr : α → Prop} (hZ : CodeAns P rh Z tr) : ∀ (c : Code) {Q : Exit → St → α} {s : St}, tr (vcCode Z T c Q s) → staticC c = true → Sem P rh c (fun e s => tr (Q e s)) s
  | .skip, Q, s, h, _ => fun X Y w0 env0 ro Qc env F a w hro hb hbase hs hsi hq => wpIn_skip (hq _ _ _ _ _ _ h rfl rfl hb hbase hs hsi)
  | .label _, Q, s, h, _ => fun X Y w0 env0 ro Qc env F a w hro hb hbase hs hsi hq => wpIn_label (hq _ _ _ _ _ _ h rfl rfl hb hbase hs hsi)
  | .exit i, Q, s, h, _ => fun X Y w0 env0 ro Qc env F a w hro hb hbase hs hsi hq => wpIn_exit (hq _ _ _ _ _ _ h rfl rfl hb hbase hs hsi)
  | .goto i, Q, s, h, _ => fun X Y w0 env0 ro Qc env F a w hro hb hbase hs hsi hq => wpIn_goto (hq _ _ _ _ _ _ h rfl rfl hb hbase hs hsi)
  | .ret, Q, s, h, _ => fun X Y w0 env0 ro Qc env F a w hro hb hbase hs hsi hq => wpIn_ret (hq _ _ _ _ _ _ h rfl rfl hb hbase hs hsi)
  | .refuse _, _, _, h, _ => (hZ.bad h).elim
  | .rangeFunc f ps as b, Q, s, h, hst => by
    simp only [staticC, Bool.and_eq_true] at hst
    exact hZ.range (fun {_ _} h => vcCode_sound' hT hm hZ b h hst.2) hst.1 hst.2 h
  | .loop b, Q, s, h, hst => hZ.loop (fun {_ _} h => vcCode_sound' hT hm hZ b h hst) hst h
  | .scope b, Q, s, h, hst => by
    rw [vcCode_scope] at h
    split at h
    · have ih := vcCode_sound' hT hm hZ b h hst
      intro X Y w0 env0 ro Qc env F a w hro hb hbase hs hsi hq
      refine wpIn_scope_straight (ih X Y w0 env0 ro _ env F a w hro hb hbase hs hsi ?_)
      intro e s' env' F' a' w' hQ h1 h2 h3 h4 h5 h6
      cases e with
      | goto l => exact (hZ.bad hQ).elim
      | _ => exact hq _ _ _ _ _ _ hQ h1 h2 h3 h4 h5 h6
    · exact hZ.scope (fun {_ _} h => vcCode_sound' hT hm hZ b h hst) hst h
  | .block id b, Q, s, h, hst => by
    have ih := vcCode_sound' hT hm hZ b (Q := blockQ id Q) h hst
    intro X Y w0 env0 ro Qc env F a w hro hb hbase hs hsi hq
    refine wpIn_block (ih X Y w0 env0 ro _ env F a w hro hb hbase hs hsi ?_)
    intro e s' env' F' a' w' hQ h1 h2 h3 h4 h5 h6
    cases e with
    | exit i =>
      simp only [blockQ] at hQ
      split at hQ
      · rename_i hb'
        have := Nat.eq_of_beq_eq_true hb'
        subst this
        simp only [Exit.inBlock, if_true]
        exact hq _ _ _ _ _ _ hQ h1 h2 h3 h4 h5 h6
      · rename_i hb'
        have : i ≠ id := by rintro rfl; simp [Nat.beq_refl] at hb'
        simp only [Exit.inBlock, this, if_false]
        exact hq _ _ _ _ _ _ hQ h1 h2 h3 h4 h5 h6
    | _ => exact hq _ _ _ _ _ _ hQ h1 h2 h3 h4 h5 h6
  | .seq x y, Q, s, h, hst => by
    simp only [staticC, Bool.and_eq_true] at hst
    have ihx := vcCode_sound' hT hm hZ x (Q := seqQ (vcCode Z T y Q) Q) h hst.1
    intro X Y w0 env0 ro Qc env F a w hro hb hbase hs hsi hq
    refine wpIn_seq (ihx X Y w0 env0 ro _ env F a w hro hb hbase hs hsi ?_)
    intro e s' env' F' a' w' hQ h1 h2 h3 h4 h5 h6
    cases e with
    | normal =>
      refine vcCode_sound' hT hm hZ y hQ hst.2 X Y w0 env0 ro Qc env' F' a' w' (by rw [h1]; exact hro) h3 h4 h5 h6 ?_
      intro e s2 env2 F2 a2 w2 q k1 k2 k3 k4 k5 k6
      exact hq _ _ _ _ _ _ q (k1.trans h1) (k2.trans h2) k3 k4 k5 k6
    | _ => exact hq _ _ _ _ _ _ hQ h1 h2 h3 h4 h5 h6
  | .cond c x y, Q, s, h, hst => by
    simp only [staticC, Bool.and_eq_true] at hst
    intro X Y w0 env0 ro Qc env F a w hro hb hbase hs hsi hq
    rw [vcCode_cond] at h
    split at h
    · rename_i t fr H n sz df log b
      split at h
      · rename_i v hl
        obtain ⟨z, hz, hd⟩ := hs.val t _ hl
        simp only [Den] at hd
        subst hd
        have he : a.eval (.tmp t) = .bool v := by simp [Act.eval, Array.getD_eq_getD_getElem?, hz]
        refine wpIn_cond he ?_
        cases v with
        | true =>
          have h := (hZ.bc h).1 rfl
          rw [setB_eq hl] at h
          exact vcCode_sound' hT hm hZ x h hst.1 X Y w0 env0 ro Qc env F a w hro hb hbase hs hsi hq
        | false =>
          have h := (hZ.bc h).2 rfl
          rw [setB_eq hl] at h
          exact vcCode_sound' hT hm hZ y h hst.2 X Y w0 env0 ro Qc env F a w hro hb hbase hs hsi hq
      · exact (hZ.bad h).elim
    · rename_i v
      have he : a.eval (.const (.bool v)) = .bool v := rfl
      refine wpIn_cond he ?_
      cases v with
      | true => exact vcCode_sound' hT hm hZ x ((hZ.bc h).1 rfl) hst.1 X Y w0 env0 ro Qc env F a w hro hb hbase hs hsi hq
      | false => exact vcCode_sound' hT hm hZ y ((hZ.bc h).2 rfl) hst.2 X Y w0 env0 ro Qc env F a w hro hb hbase hs hsi hq
    · exact (hZ.bad h).elim
  | .region id ops draw, Q, s, h, hst => by
    obtain ⟨fr, H, n, sz, df, log, b⟩ := s
    intro X Y w0 env0 ro Qc env F a w hro hb hbase hs hsi hq
    have hs0 : SatS env ⟨fr, H, n, sz, df, [], b⟩ F a w := ⟨hs.size, hs.defers, hs.val, hs.heap, hs.fresh⟩
    have fin : ∀ {s' : St}, s'.b = b → s'.sz = sz → n ≤ s'.n → ∀ (env' : Env) (F' : Foot) (a' : Act) (w' : World), tr (Q .normal s') → Ext n env env' → SatS env' s' F' a' w' → Since X Y w0 s'.H F' w' → Qc .normal a' w' := by
      intro s' g2 g1 g3 env' F' a' w' hQ he hs' hsi'
      refine hq _ _ _ _ _ _ hQ g2 g1 ?_ ?_ hs' hsi'
      · simp only at g2 g3 hb; omega
      · intro k hk'
        rw [g2] at hk'
        simp only at hb hk' hbase
        rw [he.old k (by omega)]
        exact hbase k hk'
    cases draw with
    | false =>
      have h : tr (vcOpsD Z T ops ops.toList ⟨fr, H, n, sz, df, [], b⟩ (Q .normal)) := h
      obtain ⟨s', hrun, hk⟩ := vcOpsD_run hT hZ.toOpAns h
      obtain ⟨g2, g1, g3⟩ := hrun.facts
      refine wpIn_region_list (seqD_sound (fun hd => by obtain rfl := hZ.dfr hd; exact hro.none_) hrun (X := X) (Y := Y) (w0 := w0) hs0 hsi fun env' F' a' w' he hs' hsi' => fin g2 g1 g3 env' F' a' w' hk he hs' hsi')
    | true =>
      have h : tr (vcOps Z T ops ops.toList ⟨fr, H, n, sz, df, [], b⟩ (regQ Z ops true Q)) := h
      obtain ⟨rs, s', hrun, hk⟩ := vcOps_run hT hZ.toOpAns h
      obtain ⟨-, g1, -, g2, g3, -, -, -, -, -, g4⟩ := hrun.facts
      obtain ⟨fr2, H2, n2, sz2, df2, log2, b2⟩ := s'
      simp only [regQ] at hk
      split at hk
      · rename_i hr
        have hord : Ordered ops rs := by
          refine ordered_of hst ?_
          simp only [List.append_nil] at g4
          rw [← g4]; exact hr
        exact draw_sound hm hrun hord hs0 hsi fun env' F' a' w' he hs' hsi' => fin g2 g1 g3 env' F' a' w' hk he hs' hsi'
      · exact (hZ.bad hk).elim

theorem vcCode_sound {P : Program} {rh : Option Nat} {T : Tab} (hT : TabOK P T) (hm : P.follows .mixedOrders = true) (c : Code) {Q : Exit → St → Prop} {s : St} (h : vcCode (Ask P rh) T c Q s) (hst : staticC c = true) : Sem P rh c Q s :=
  vcCode_sound' hT hm (askOK P rh) c h hst

end
end Go.SX
