/- SX, part Q: the computing walk: functions are entered, loops are run. -/
import Derived.Test.YtbdlkehjnfnajaaSXP
import Derived.Test.YtbdlkehjnfnajaaSXY
namespace Go.SX

/-- A function, as the walk needs it. -/
structure FRow where
  nt : Nat
  rs : List ResultVar
  c : Code

def FunOK (P : Program) (g : FuncId) (r : FRow) : Prop :=
  ∃ fn, P.funcs[g]? = some fn ∧ fn.ntmps = r.nt ∧ fn.results.toList = r.rs ∧ fn.body = some r.c ∧ HasBody P g = true ∧ staticC r.c = true

/-- Why a computing walk came to no end. -/
inductive Why where
  | bad
  | ob (p : Prop)
  | op (o : Oper) (s : St)
  | call (g : FuncId) (w : Why)
  | code (c : Code)
  | noFn (g : FuncId)
  | fuel
  | entry (vs : List AV) (H : Heap)
  | exit (n : Nat) (pre : Heap) (v : AV) (post : Heap) (n' : Nat)

/-- What a computing walk gives. -/
inductive Got (β : Type) where
  | ok (x : β)
  | no (w : Why)

abbrev CallH := FuncId → List AV → Heap → Heap → Nat → Got (AV × Heap × Nat)
def CallOK (P : Program) (C : CallH) : Prop := ∀ {g vs pre R n v post n'}, C g vs pre R n = .ok (v, post, n') → Ctr P g vs R pre n n' v post

abbrev Pure := FuncId → List AV → Option AV
/-- A function without a body, for which the model stands in. -/
def ExtAt (P : Program) (g : FuncId) (vs : List AV) (v : AV) : Prop := ∀ (env : Env) (xs : Array Value) (w : World), Dens env vs xs.toList → ∃ x, (callFunc g xs).run P w = .ok (.value x) w ∧ Den env v x
def PureOK (P : Program) (pu : Pure) : Prop := ∀ {g vs v}, pu g vs = some v → (∀ n, Ctr P g vs [] [] n n v []) ∨ ExtAt P g vs v

def far : Nat := 1000000

/-- Answers that are computed. -/
def base (β : Type) : Ans (Got β) where
  rows := true
  bad := .no .bad
  ob := fun p d a => match d with | .isTrue _ => a | .isFalse _ => .no (.ob p)
  bc := fun b x y => match b with | true => x | false => y
  num := numK
  int := intK
  str := fun s K => K s
  pre := fun _ _ _ d => d
  stop := fun o s _ => .no (.op o s)
  call := fun g _ _ _ _ => .no (.noFn g)
  loop := fun _ c _ _ => .no (.code c)
  scope := fun _ c _ _ => .no (.code c)
  range := fun _ _ _ _ c _ _ => .no (.code c)
  num_eq := numK_eq
  int_eq := intK_eq
  str_eq := fun _ _ => rfl

theorem baseOK (P : Program) {β : Type} (x : β) : OpAns P (base β) (fun a => a = .ok x) where
  bad := by intro h; cases h
  ob := by
    intro p d a h
    cases d with
    | isTrue hp => exact ⟨hp, h⟩
    | isFalse hp => cases h
  bc := by
    intro b x y h
    cases b with
    | true => exact ⟨fun _ => h, fun e => by cases e⟩
    | false => exact ⟨fun e => (by cases e), fun _ => h⟩
  pre := fun h => .inr h
  stop := by intro o s K h; cases h
  call := by intro g vs o s K h; cases h

/-- The call: what the callee can reach goes with it. -/
def callG (C : CallH) (pu : Pure) {β : Type} (g : FuncId) (vs : List AV) (o : Oper) (s : St) (K : St → Got β) : Got β :=
  match s with
  | ⟨fr, H, n, sz, df, log, b⟩ => match pu g vs with
    | some v => putM (base β) o v fr H n sz df log b [] [] K
    | none => match reach H far (hsL vs []) 0 [] with
      | none => .no .fuel
      | some acc => match C g vs (acc.filter exB) (acc.filter roP) n with
        | .no w => .no (.call g w)
        | .ok (v, post, n') => spine post fun post => putM (base β) o v fr (post ++ H) n' sz df log b (keysOf (acc.filter roP)) (keysOf post) K

theorem call_at {P : Program} {g : FuncId} {vs : List AV} {R pre post : Heap} {n n' : Nat} {v : AV} (spec : Ctr P g vs R pre n n' v post) {o : Oper} {fr : Fr} (hcall : IsCall o fr g vs) : Triple P o fr R pre n n' v post := by
  obtain ⟨hbody, _, _, spec⟩ := spec
  intro env F a w next Q hneed hsat hfresh hk
  obtain ⟨xs, hx, hrun⟩ := evs_call hneed hcall
  have hC := spec env F w xs hx hsat hfresh
  unfold Oper.wp
  rw [hrun, hasBody_run hbody]
  refine Calls.mono hC ?_
  rintro e w' ⟨env', F', x, rfl, t, hden⟩
  exact hk env' F' x w' t hden

theorem ext_at {P : Program} {g : FuncId} {vs : List AV} {n : Nat} {v : AV} (spec : ExtAt P g vs v) {o : Oper} {fr : Fr} (hcall : IsCall o fr g vs) : Triple P o fr [] [] n n v [] := by
  refine triple_val fun env a w hn => ?_
  obtain ⟨xs, hx, hrun⟩ := evs_call hn hcall
  obtain ⟨x, h1, h2⟩ := spec env xs w hx
  exact ⟨x, by rw [hrun, h1], h2⟩

theorem sub_filter {H : Heap} {acc : Heap} (h : ∀ p ∈ acc, look H p.1 = some p.2) (f : Nat × Res → Bool) : Sub (acc.filter f) H := by
  intro k x hk
  have := look_mem hk
  rw [List.mem_filter] at this
  exact h _ this.1

theorem callG_ok {P : Program} {C : CallH} (hC : CallOK P C) {pu : Pure} (hp : PureOK P pu) {β : Type} {x : β} {g : FuncId} {vs : List AV} {o : Oper} {s : St} {K : St → Got β} (h : callG C pu g vs o s K = .ok x) :
    CallStop P g vs o s (fun s => K s = .ok x) := by
  obtain ⟨fr, H, n, sz, df, log, b⟩ := s
  intro hcall
  unfold callG at h
  simp only at h
  split at h
  · rename_i v hv
    obtain ⟨k1, k2⟩ := putM_iff (baseOK P x) h
    refine ⟨⟨true, [], [], [], n, n, v, [], []⟩, rfl, rfl, Nat.le_refl _, k1, (hp hv).elim (fun h => call_at (h n) hcall) (fun h => ext_at h hcall), sub_nil, sub_nil, by simp [look], by simp [look], by simp [look], k2⟩
  · split at h
    · cases h
    · rename_i acc hacc
      have hmem := reach_mem (by simp) hacc
      split at h
      · cases h
      · rename_i v post n' hc
        rw [spine_eq] at h
        obtain ⟨k1, k2⟩ := putM_iff (baseOK P x) h
        have hspec := hC hc
        refine ⟨⟨true, acc.filter roP, acc.filter exB, post, n, n', v, keysOf (acc.filter roP), keysOf post⟩, rfl, rfl, hspec.2.1, k1, call_at hspec hcall, sub_filter hmem _, sub_filter hmem _, domB_ok hspec.2.2.1,
          fun k x hk => look_map_dom hk, fun k x hk => look_map_dom hk, k2⟩

/-- The rounds of a loop, each from a tidy state. -/
def roundsC {β : Type} (vb : (Exit → St → Got β) → St → Got β) (Q : Exit → St → Got β) : Nat → St → Got β
  | 0, _ => .no .fuel
  | k + 1, s => match s with
    | ⟨fr, H, n, sz, df, _, b⟩ => spine (clean fr 0) fun fr => spine (clean H 0) fun H => vb (seqQ (roundsC vb Q k) Q) ⟨fr, H, n, sz, df, [], b⟩

theorem SatS.congr {env : Env} {fr fr' : Fr} {H H' : Heap} {n sz b : Nat} {df : List (FuncId × List AV)} {log log' : List (List Nat × List Nat)} {F : Foot} {a : Act} {w : World} (hf : ∀ t, look fr' t = look fr t) (hH : ∀ t, look H' t = look H t)
    (h : SatS env ⟨fr, H, n, sz, df, log, b⟩ F a w) : SatS env ⟨fr', H', n, sz, df, log', b⟩ F a w :=
  ⟨h.size, h.defers, fun t v hl => h.val t v ((hf t).symm.trans hl), h.heap.congr hH, h.fresh⟩

theorem roundsC_sound {P : Program} {β : Type} {x : β} {vb : (Exit → St → Got β) → St → Got β} {body : Code} (hv : ∀ {Q s}, vb Q s = .ok x → Sem P body (fun e s => Q e s = .ok x) s)
    {Q : Exit → St → Got β} {s : St} (n : Nat) (h : roundsC vb Q n s = .ok x) : Sem P (.loop body) (fun e s => Q e s = .ok x) s := by
  intro X Y w0 env0 Qc env F a w hb hbase hs hsi hq
  refine wp_loop_rounds n ?_
  have key : ∀ (n : Nat) (s : St) (env : Env) (F : Foot) (a : Act) (w : World), roundsC vb Q n s = .ok x → (s.b ≤ s.n) → (∀ k, k < s.b → env k = env0 k) → SatS env s F a w → Since X Y w0 s.H F w →
      (∀ e s' env' F' a' w', Q e s' = .ok x → s'.b = s.b → s'.sz = s.sz → s'.b ≤ s'.n → (∀ k, k < s'.b → env' k = env0 k) → SatS env' s' F' a' w' → Since X Y w0 s'.H F' w' → Qc e a' w') → Code.rounds P body Qc n a w := by
    intro n
    induction n with
    | zero => intro s env F a w h; cases h
    | succ n ih =>
      intro s env F a w h hb hbase hs hsi hq
      obtain ⟨fr, H, n2, sz, df, log, b⟩ := s
      unfold roundsC at h
      simp only [spine_eq] at h
      rw [rounds_succ]
      refine hv h X Y w0 env0 _ env F a w hb hbase (hs.congr (fun t => look_clean0) (fun t => look_clean0)) (hsi.congr fun t => look_clean0) ?_
      intro e s' env' F' a' w' hQ h1 h2 h3 h4 h5 h6
      cases e with
      | normal => exact ih s' env' F' a' w' hQ h3 h4 h5 h6 fun e s2 env2 F2 a2 w2 q k1 k2 k3 k4 k5 k6 => hq _ _ _ _ _ _ q (k1.trans h1) (k2.trans h2) k3 k4 k5 k6
      | _ => exact hq _ _ _ _ _ _ hQ h1 h2 h3 h4 h5 h6
  exact key n s env F a w h hb hbase hs hsi hq

/-- The jumps of a scope. -/
def jumpsC {β : Type} (vr : Code → (Exit → St → Got β) → St → Got β) (b : Code) (Q : Exit → St → Got β) : Nat → Exit → St → Got β
  | 0, e, s => match e with
    | .goto _ => .no .fuel
    | e => Q e s
  | n + 1, e, s => match e with
    | .goto l => match findLabel b l with
      | some rest => match staticC rest, s with
        | true, ⟨fr, H, n2, sz, df, _, bs⟩ => spine (clean fr 0) fun fr => spine (clean H 0) fun H => vr rest (jumpsC vr b Q n) ⟨fr, H, n2, sz, df, [], bs⟩
        | false, _ => .no (.code rest)
      | none => .no (.code b)
    | e => Q e s

theorem jumpsC_sound {P : Program} {β : Type} {x : β} {vr : Code → (Exit → St → Got β) → St → Got β} (hv : ∀ {c Q s}, staticC c = true → vr c Q s = .ok x → Sem P c (fun e s => Q e s = .ok x) s)
    {b : Code} {Q : Exit → St → Got β} {s : St} {n : Nat} (h : Sem P b (fun e s => jumpsC vr b Q n e s = .ok x) s) : Sem P (.scope b) (fun e s => Q e s = .ok x) s := by
  intro X Y w0 env0 Qc env F a w hb hbase hs hsi hq
  refine wp_scope_unroll n ?_
  have key : ∀ (n : Nat) (e : Exit) (s' : St) (env' : Env) (F' : Foot) (a' : Act) (w' : World), jumpsC vr b Q n e s' = .ok x → s'.b = s.b → s'.sz = s.sz → s'.b ≤ s'.n → (∀ k, k < s'.b → env' k = env0 k) → SatS env' s' F' a' w' →
      Since X Y w0 s'.H F' w' → Jumps P b Qc n e a' w' := by
    intro n
    induction n with
    | zero =>
      intro e s' env' F' a' w' h1 h2 h3 h4 h5 h6 h7
      cases e with
      | goto l => unfold jumpsC at h1; cases h1
      | _ => exact hq _ _ _ _ _ _ h1 h2 h3 h4 h5 h6 h7
    | succ n ih =>
      intro e s' env' F' a' w' h1 h2 h3 h4 h5 h6 h7
      cases e with
      | goto l =>
        unfold jumpsC at h1
        simp only at h1
        split at h1
        · rename_i rest hf
          split at h1
          · rename_i fr H n2 sz df log bs hst
            simp only [spine_eq] at h1
            refine ⟨rest, hf, ?_⟩
            refine hv hst h1 X Y w0 env0 _ env' F' a' w' h4 h5 (h6.congr (fun t => look_clean0) (fun t => look_clean0)) (h7.congr fun t => look_clean0) ?_
            intro e s2 env2 F2 a2 w2 q k1 k2 k3 k4 k5 k6
            exact ih e s2 env2 F2 a2 w2 q (k1.trans h2) (k2.trans h3) k3 k4 k5 k6
          · cases h1
        · cases h1
      | _ => exact hq _ _ _ _ _ _ h1 h2 h3 h4 h5 h6 h7
  exact h X Y w0 env0 _ env F a w hb hbase hs hsi fun e s' env' F' a' w' h1 h2 h3 h4 h5 h6 h7 => key n e s' env' F' a' w' h1 h2 h3 h4 h5 h6 h7

/-- The computing walk. -/
def GetL (T : Tab) (C : CallH) (pu : Pure) (β : Type) : Nat → Ans (Got β)
  | 0 => { base β with
      call := callG C pu
      loop := fun vb _ Q s => roundsC vb Q far s }
  | k + 1 => { base β with
      call := callG C pu
      loop := fun vb _ Q s => roundsC vb Q far s
      scope := fun vb b Q s => vb (jumpsC (vcCode (GetL T C pu β k) T) b Q far) s }

def Get (T : Tab) (C : CallH) (pu : Pure) (β : Type) : Ans (Got β) := GetL T C pu β 4

theorem getOK {P : Program} {T : Tab} (hT : TabOK P T) (hm : P.follows .mixedOrders = true) {C : CallH} (hC : CallOK P C) {pu : Pure} (hp : PureOK P pu) {β : Type} (x : β) : ∀ k, CodeAns P (GetL T C pu β k) (fun a => a = .ok x) := by
  intro k
  induction k with
  | zero =>
    exact {
      bad := (baseOK P x).bad
      ob := (baseOK P x).ob
      bc := (baseOK P x).bc
      pre := fun h => .inr h
      stop := by intro o s K h; cases h
      call := fun h => callG_ok hC hp h
      loop := fun hv _ h => roundsC_sound hv _ h
      scope := by intro vb b Q s _ _ h; cases h
      range := by intro f ps as vb b Q s _ _ _ h; cases h }
  | succ k ih =>
    exact {
      bad := (baseOK P x).bad
      ob := (baseOK P x).ob
      bc := (baseOK P x).bc
      pre := fun h => .inr h
      stop := by intro o s K h; cases h
      call := fun h => callG_ok hC hp h
      loop := fun hv _ h => roundsC_sound hv _ h
      scope := fun hv _ h => jumpsC_sound (fun hst h => vcCode_sound' hT hm ih _ h hst) (hv h)
      range := by intro f ps as vb b Q s _ _ _ h; cases h }

def keepB (n : Nat) (p : Nat × Res) : Bool := match p.2.excl with | true => true | false => Nat.ble n p.1

/-- The end of a function. -/
def finE (n : Nat) (pre : Heap) (v : AV) (H : Heap) (n' : Nat) : Got (AV × Heap × Nat) :=
  match reach H far (hsA v (keysOf pre)) 0 [] with
  | none => .no .fuel
  | some acc => spine (acc.filter (keepB n)) fun post => .ok (v, post, n')

theorem finE_ok {n n0 n' : Nat} {pre post H : Heap} {v0 v : AV} (h : finE n pre v0 H n0 = .ok (v, post, n')) : v0 = v ∧ n0 = n' ∧ ∀ p ∈ post, look H p.1 = some p.2 := by
  unfold finE at h
  split at h
  · cases h
  · rename_i acc hacc
    rw [spine_eq] at h
    simp only [Got.ok.injEq, Prod.mk.injEq] at h
    obtain ⟨h1, h2, h3⟩ := h
    refine ⟨h1, h3, ?_⟩
    intro p hp
    rw [← h2, List.mem_filter] at hp
    exact reach_mem (by simp) hacc p hp.1

def outE (n : Nat) (pre : Heap) (r : Got (AV × Heap × Nat)) : Got (AV × Heap × Nat) :=
  match r with
  | .no w => .no w
  | .ok (v, post, n') => match Nat.ble n n' && (domM pre (keysM post 0) && (okH n' post && okA n' v)) with
    | true => .ok (v, post, n')
    | false => .no (.exit n pre v post n')

def evFn (T : Tab) (fns : FuncId → Option FRow) (pu : Pure) : Nat → CallH
  | 0, _, _, _, _, _ => .no .fuel
  | k + 1, g, vs, pre, R, n => match fns g with
    | none => .no (.noFn g)
    | some ⟨nt, rs, c⟩ => match okL n vs && (okH n (pre ++ R) && (roB R && Nat.ble vs.length nt)) with
      | false => .no (.entry vs (pre ++ R))
      | true => outE n pre (frK (base _) 0 vs fun fr => spine (pre ++ R) fun H => vcCode (Get T (evFn T fns pu k) pu _) T c (retQ (base _) T rs (finE n pre)) ⟨fr, H, n, nt, [], [], n⟩)

mutual
theorem renA_id {π : Nat → Nat} (h : ∀ k, π k = k) : ∀ v : AV, renA π v = v
  | .bool _ | .int _ _ | .str _ | .nilp | .nils | .nilm | .nilf | .nili | .raw _ => by simp [renA]
  | .hd _ | .sl _ _ | .ptr _ _ | .el _ _ _ _ | .slc _ _ _ _ | .sv _ _ _ _ _ => by simp [renA, h]
  | .agg l => by simp [renA, renL_id h l]
  | .tup l => by simp [renA, renL_id h l]
  | .iface _ v => by simp [renA, renA_id h v]
  | .fn _ l m => by simp [renA, renL_id h l, renL_id h m]
theorem renL_id {π : Nat → Nat} (h : ∀ k, π k = k) : ∀ l : List AV, renL π l = l
  | [] => by simp [renL]
  | v :: l => by simp [renL, renA_id h v, renL_id h l]
end

theorem renM_id {π : Nat → Nat} (h : ∀ k, π k = k) : ∀ l : List (AV × AV), renM π l = l
  | [] => rfl
  | (k, v) :: l => by simp [renM, renA_id h, renM_id h l]

theorem renR_id {π : Nat → Nat} (h : ∀ k, π k = k) (r : Res) : renR π r = r := by cases r <;> simp [renR, renL_id h, renM_id h, h]

theorem nodupB_range (m : Nat) : ∀ n, nodupB (List.range' n m) = true := by
  induction m with
  | zero => intro n; rfl
  | succ m ih =>
    intro n
    rw [List.range'_succ]
    simp only [nodupB, Bool.and_eq_true, Bool.not_eq_true', ih (n + 1), and_true]
    rw [List.any_eq_false]
    intro x hx
    rw [List.mem_range'_1] at hx
    intro hb
    have := Nat.eq_of_beq_eq_true hb
    omega

theorem fs_range {n m : Nat} (k : Nat) : fs n (List.range' n m) k = k := by
  unfold fs
  split
  · rfl
  · rename_i hb
    have hge : n ≤ k := by
      rcases Nat.lt_or_ge k n with h | h
      · have : Nat.blt k n = true := by simpa using h
        rw [this] at hb; cases hb
      · exact h
    rw [nth_eq]
    by_cases hk : k - n < m
    · rw [List.getElem?_range' (by simpa using hk)]; simp; omega
    · rw [List.getElem?_eq_none (by simp; omega)]

theorem Fin.same {n n' : Nat} {r : AV} {post H : Heap} (h1 : okH n' post = true) (h2 : okA n' r = true) (h3 : ∀ p ∈ post, look H p.1 = some p.2) : Fin n n' r post r H := by
  refine ⟨List.range' n (n' - n), by simp, nodupB_range _ _, ?_, h1, h2, (renA_id (fun k => fs_range k) r).symm, ?_⟩
  · rw [List.all_eq_true]
    intro x hx
    rw [List.mem_range'_1] at hx
    simpa using hx.1
  · have key : ∀ l : Heap, (∀ p ∈ l, look H p.1 = some p.2) → HasAll H (fs n (List.range' n (n' - n))) l := by
      intro l
      induction l with
      | nil => intro _; trivial
      | cons p l ih =>
        obtain ⟨k, r0⟩ := p
        intro h
        refine ⟨?_, ih fun p hp => h p (List.mem_cons_of_mem _ hp)⟩
        rw [fs_range, renR_id (fun k => fs_range k)]
        exact h _ List.mem_cons_self
    exact key _ h3

theorem domM_ok {post : Heap} : ∀ {pre : Heap}, domM pre (keysM post 0) = true → domB pre post = true
  | [], _ => rfl
  | (k, r) :: l, h => by
    simp only [domM, Bool.and_eq_true] at h
    unfold domB
    rw [List.all_cons, Bool.and_eq_true]
    refine ⟨?_, domM_ok h.2⟩
    rcases keysM_in h.1 with h0 | ⟨x, hx⟩
    · rw [inM_zero] at h0; cases h0
    · rw [List.any_eq_true]
      exact ⟨_, look_mem hx, Nat.beq_refl _⟩

theorem Sem.mono {P : Program} {c : Code} {Q Q' : Exit → St → Prop} {s : St} (h : Sem P c Q s) (hq : ∀ e s, Q e s → Q' e s) : Sem P c Q' s :=
  fun X Y w0 env0 Qc env F a w h1 h2 h3 h4 h5 => h X Y w0 env0 Qc env F a w h1 h2 h3 h4 fun e s' env' F' a' w' k => h5 e s' env' F' a' w' (hq _ _ k)

theorem evFn_ok {P : Program} {T : Tab} (hT : TabOK P T) (hm : P.follows .mixedOrders = true) {fns : FuncId → Option FRow} (hf : ∀ {g r}, fns g = some r → FunOK P g r) {pu : Pure} (hp : PureOK P pu) : ∀ k, CallOK P (evFn T fns pu k) := by
  intro k
  induction k with
  | zero => intro g vs pre R n v post n' h; unfold evFn at h; cases h
  | succ k ih =>
    intro g vs pre R n v post n' h
    unfold evFn at h
    split at h
    · cases h
    · rename_i nt rs c hfn
      split at h
      · cases h
      · rename_i hb
        simp only [Bool.and_eq_true] at hb
        obtain ⟨b1, b2, b3, b4⟩ := hb
        rw [frK_eq, spine_eq] at h
        obtain ⟨fn, f1, f2, f3, f4, f5, f6⟩ := hf hfn
        simp only at f2 f3 f4 f6
        unfold outE at h
        split at h
        · cases h
        · rename_i v1 post1 n1 hr
          split at h
          · rename_i hc
            simp only [Got.ok.injEq, Prod.mk.injEq] at h
            obtain ⟨rfl, rfl, rfl⟩ := h
            simp only [Bool.and_eq_true] at hc
            obtain ⟨c1, c2, c3, c4⟩ := hc
            have hsem := vcCode_sound' hT hm (getOK hT hm ih hp (v1, post1, n1) 4) c hr f6
            refine Ctr.intro_sem hT f1 f4 (by rw [f6, f5, c1]; rfl) (by rw [f2]; exact b4) b1 b2 (by rw [b3, domM_ok c2]; rfl) ?_
            rw [f2, f3]
            refine hsem.mono ?_
            have fin : ∀ s, endQ (base (AV × Heap × Nat)) T rs (finE n pre) s = .ok (v1, post1, n1) → endQ (Ask P) T rs (fun v H _ => Fin n n1 v1 post1 v H) s := by
              intro s hq
              obtain ⟨fr, H, n2, sz, df, log, b⟩ := s
              cases df with
              | cons d df => unfold endQ at hq; cases hq
              | nil =>
                unfold endQ at hq ⊢
                simp only at hq ⊢
                split at hq
                · rename_i l hl
                  rw [force_eq] at hq ⊢
                  obtain ⟨e1, e2, e3⟩ := finE_ok hq
                  rw [e1]
                  exact Fin.same c3 c4 e3
                · cases hq
            intro e s hq
            cases e with
            | normal => exact fin s hq
            | ret => exact fin s hq
            | _ => unfold retQ at hq; cases hq
          · cases h

end Go.SX
