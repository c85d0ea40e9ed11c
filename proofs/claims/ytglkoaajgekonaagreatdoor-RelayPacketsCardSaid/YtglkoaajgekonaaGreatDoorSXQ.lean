/- SX, part Q: the computing walk: functions are entered, loops are run. -/
import Derived.Test.YtglkoaajgekonaaGreatDoorSXEA
import Derived.RangeFuncIn
import Derived.RangeFuncRecord
namespace Go.SX
noncomputable section
structure FRow where
 nt : Nat
 rs : List ResultVar
 c : Code
def FunOK (P : Program) (g : FuncId) (r : FRow) : Prop :=
 ∃ fn, P.funcs[g]? = some fn ∧ fn.ntmps = r.nt ∧ fn.results.toList = r.rs ∧ fn.body = some r.c ∧ HasBody P g = true ∧ staticC r.c = true
def appK {β γ : Type} (l m : List β) : (List β → γ) → γ := List.rec (motive := fun _ => (List β → γ) → γ) (fun K => K m) (fun x _ ih K => ih fun l => K (x :: l)) l
theorem appK_eq {β γ : Type} (l m : List β) (K : List β → γ) : appK l m K = K (l ++ m) := by
 induction l generalizing K with
 | nil => rfl
 | cons x l ih => exact ih fun l => K (x :: l)
def keysR (H : Heap) : List Nat := List.rec (motive := fun _ => List Nat) [] (fun p _ ih => p.1 :: ih) H
theorem keysR_eq (H : Heap) : keysR H = keysOf H := by
 induction H with
 | nil => rfl
 | cons p l ih => show p.1 :: keysR l = _; rw [ih]; rfl
def putP {α : Type} (A : Ans α) (o : Oper) (v : AV) (fr : Fr) (H : Heap) (n sz : Nat) (df : List Df) (log : List (List Nat × List Nat)) (bs : Nat) (rd wr : List Nat) (K : St → α) : α :=
 match o.dst with
 | none => K ⟨fr, H, n, sz, df, (rd, wr) :: log, bs⟩
 | some d => match Nat.blt d sz with
  | true => K ⟨(d, v) :: fr, H, n, sz, df, (rd, wr) :: log, bs⟩
  | false => A.bad
theorem putP_eq {α : Type} (A : Ans α) (o : Oper) (v : AV) (fr : Fr) (H : Heap) (n sz : Nat) (df : List Df) (log : List (List Nat × List Nat)) (bs : Nat) (rd wr : List Nat) (K : St → α) : putP A o v fr H n sz df log bs rd wr K = putM A o v fr H n sz df log bs rd wr K := by
 unfold putP putM
 cases o.dst with
 | none => rfl
 | some d => simp only [force_eq]; rfl
abbrev CallH := FuncId → List AV → Heap → Heap → Nat → Got (AV × Heap × Nat)
def CallOK (P : Program) (C : CallH) : Prop := ∀ {g vs pre R n v post n'}, C g vs pre R n = .ok (v, post, n') → Ctr P g vs R pre n n' v post
abbrev Pure := FuncId → List AV → Option AV
def ExtAt (P : Program) (g : FuncId) (vs : List AV) (v : AV) : Prop := ∀ (env : Env) (xs : Array Value) (w : World), Dens env vs xs.toList → ∃ x, (callFunc g xs).run P w = .ok (.value x) w ∧ Den env v x
def PureOK (P : Program) (pu : Pure) : Prop := ∀ {g vs v}, pu g vs = some v → (∀ n, Ctr P g vs [] [] n n v []) ∨ ExtAt P g vs v
def far : Nat := 1000000
def base (β : Type) : Ans (Got β) where
 rows := true
 dfr := true
 bad := .no .bad
 ob := fun p d a => match d with | .isTrue _ => a | .isFalse _ => .no (.ob p)
 bc := fun b x y => match b with | true => x | false => y
 num := numK
 int := intK
 str := strK
 pre := fun _ _ _ d => d
 stop := fun o s _ => .no (.op o s)
 call := fun g _ _ _ _ => .no (.noFn g)
 yld := fun _ _ o s _ => .no (.op o s)
 loop := fun _ c _ _ => .no (.code c)
 scope := fun _ c _ _ => .no (.code c)
 range := fun _ _ _ _ c _ _ => .no (.code c)
 num_eq := numK_eq
 int_eq := intK_eq
 str_eq := strK_eq
theorem baseOK (P : Program) {β : Type} (x : β) : OpAns P (base β) (fun a => a = .ok x) where
 bad := by intro h; cases h
 ob := by
  intro p d a h
  cases d with
  | isTrue hp => exact ⟨hp, h⟩
  | isFalse hp => cases h
 bc := by
  intro b x y h
  cases b with
  | true => exact ⟨fun _ => h, fun e => by cases e⟩
  | false => exact ⟨fun e => (by cases e), fun _ => h⟩
 pre := fun h => .inr h
 stop := by intro o s K h; cases h
 call := by intro g vs o s K h; cases h
 yld := by intro h0 vs o s K h; cases h
def markL : List AV := [.ptr 0 0, .sl 0 0]
def keepG {γ : Type} (kept R post H : Heap) (K : Heap → Heap → Heap → γ) : γ := appK kept R fun R' => appK (filterR post (restP kept)) H fun H' => K R' (filterR post (restP kept)) H'
def callG (C : CallH) (pu : Pure) {β : Type} (g : FuncId) (vs : List AV) (o : Oper) (s : St) (K : St → Got β) : Got β :=
 match s with
 | ⟨fr, H, n, sz, df, log, b⟩ => match pu g vs with
  | some v => putM (base β) o v fr H n sz df log b [] [] K
  | none => match reach H far (hsL vs [0]) 0 [] with
   | none => .no .fuel
   | some acc => match C g vs (filterR acc exB) (filterR acc roP) n with
    | .no w => .no (.call g w)
    | .ok (v, post, n') => match pu g markL with
     | none => appK post H fun H' => putP (base β) o v fr H' n' sz df log b (keysR (filterR acc roP)) (keysR post) K
     | some _ => keepG (filterR (filterR acc exB) (keptB post)) (filterR acc roP) post H fun R' post' H' => putP (base β) o v fr H' n' sz df log b (keysR R') (keysR post') K
theorem call_at {P : Program} {g : FuncId} {vs : List AV} {R pre post : Heap} {n n' : Nat} {v : AV} (spec : Ctr P g vs R pre n n' v post) {o : Oper} {fr : Fr} (hcall : IsCall o fr g vs) : Triple P o fr R pre n n' v post := by
 obtain ⟨hbody, _, _, spec⟩ := spec
 intro env F a w next Q hneed hsat hfresh hk
 obtain ⟨xs, hx, hrun⟩ := evs_call hneed hcall
 have hC := spec env F w xs hx hsat hfresh
 unfold Oper.wp
 rw [hrun, hasBody_run hbody]
 refine Calls.mono hC ?_
 rintro e w' ⟨env', F', x, rfl, t, hden⟩
 exact hk env' F' x w' t hden
theorem ext_at {P : Program} {g : FuncId} {vs : List AV} {n : Nat} {v : AV} (spec : ExtAt P g vs v) {o : Oper} {fr : Fr} (hcall : IsCall o fr g vs) : Triple P o fr [] [] n n v [] := by
 refine triple_val fun env a w hn => ?_
 obtain ⟨xs, hx, hrun⟩ := evs_call hn hcall
 obtain ⟨x, h1, h2⟩ := spec env xs w hx
 exact ⟨x, by rw [hrun, h1], h2⟩
theorem sub_filter {H : Heap} {acc : Heap} (h : ∀ p ∈ acc, look H p.1 = some p.2) (f : Nat × Res → Bool) : Sub (filterR acc f) H := by
 rw [filterR_eq]
 intro k x hk
 have := look_mem hk
 rw [List.mem_filter] at this
 exact h _ this.1
theorem callG_ok {P : Program} {C : CallH} (hC : CallOK P C) {pu : Pure} (hp : PureOK P pu) {β : Type} {x : β} {g : FuncId} {vs : List AV} {o : Oper} {s : St} {K : St → Got β} (h : callG C pu g vs o s K = .ok x) :
  CallStop P g vs o s (fun s => K s = .ok x) := by
 obtain ⟨fr, H, n, sz, df, log, b⟩ := s
 intro hcall
 unfold callG at h
 simp only at h
 split at h
 ·rename_i v hv
  obtain ⟨k1, k2⟩ := putM_iff (baseOK P x) h
  refine ⟨⟨true, [], [], [], n, n, v, [], []⟩, rfl, rfl, Nat.le_refl _, k1, ((hp hv).elim (fun h => call_at (h n) hcall) (fun h => ext_at h hcall)).y, sub_nil, sub_nil, by simp [lookN], by simp [lookN], by simp [lookN], k2⟩
 ·split at h
  ·cases h
  ·rename_i acc hacc
   have hmem := reach_mem (by simp) hacc
   split at h
   ·cases h
   ·rename_i v post n' hc
    have hspec := hC hc
    split at h
    rotate_left
    ·unfold keepG at h
     rw [appK_eq, appK_eq] at h
     simp only at h
     rw [putP_eq, keysR_eq, keysR_eq] at h
     obtain ⟨k1, k2⟩ := putM_iff (baseOK P x) h
     have hk := hspec.keep hmem
     have s1 : Sub (filterR (filterR acc exB) (keptB post) ++ filterR acc roP) H := by
      intro k y hk2
      rw [look_append] at hk2
      cases hq : look (filterR (filterR acc exB) (keptB post)) k with
      | some z =>
       rw [hq] at hk2; cases hk2
       rw [filterR_eq, filterR_eq] at hq
       have := look_mem hq
       rw [List.mem_filter, List.mem_filter] at this
       exact hmem _ this.1.1
      | none =>
       rw [hq] at hk2
       exact sub_filter hmem roP k y (by simpa using hk2)
     have s2 : Sub (filterR (filterR acc exB) fun p => !keptB post p) H := by
      intro k y hk2
      rw [filterR_eq, filterR_eq] at hk2
      have := look_mem hk2
      rw [List.mem_filter, List.mem_filter] at this
      exact hmem _ this.1.1
     exact ⟨⟨true, _, _, _, n, n', v, keysOf _, keysOf _⟩, rfl, rfl, hk.2.1, k1, (call_at hk hcall).y, s1, s2, domB_ok hk.2.2.1, fun k x hk => look_map_dom hk, fun k x hk => look_map_dom hk, k2⟩
    rw [appK_eq, putP_eq, keysR_eq, keysR_eq] at h
    obtain ⟨k1, k2⟩ := putM_iff (baseOK P x) h
    refine ⟨⟨true, filterR acc roP, filterR acc exB, post, n, n', v, keysOf (filterR acc roP), keysOf post⟩, rfl, rfl, hspec.2.1, k1, (call_at hspec hcall).y, sub_filter hmem _, sub_filter hmem _, domB_ok hspec.2.2.1,
     fun k x hk => look_map_dom hk, fun k x hk => look_map_dom hk, k2⟩
def roundsC {β : Type} (vb : (Exit → St → Got β) → St → Got β) (Q : Exit → St → Got β) : Nat → St → Got β
 | 0, _ => .no .fuel
 | k + 1, s => match s with
  | ⟨fr, H, n, sz, df, _, b⟩ => spine (clean fr 0) fun fr => spine (clean H 0) fun H => vb (seqQ (roundsC vb Q k) Q) ⟨fr, H, n, sz, df, [], b⟩
theorem SatS.congr {env : Env} {fr fr' : Fr} {H H' : Heap} {n sz b : Nat} {df : List Df} {log log' : List (List Nat × List Nat)} {F : Foot} {a : Act} {w : World} (hf : ∀ t, look fr' t = look fr t) (hH : ∀ t, look H' t = look H t)
  (h : SatS env ⟨fr, H, n, sz, df, log, b⟩ F a w) : SatS env ⟨fr', H', n, sz, df, log', b⟩ F a w :=
 ⟨h.size, h.defers, fun t v hl => h.val t v ((hf t).symm.trans hl), h.heap.congr hH, h.fresh⟩
theorem roundsC_sound {P : Program} {β : Type} {x : β} {rh : Option Nat} {vb : (Exit → St → Got β) → St → Got β} {body : Code} (hv : ∀ {Q s}, vb Q s = .ok x → Sem P rh body (fun e s => Q e s = .ok x) s)
  {Q : Exit → St → Got β} {s : St} (n : Nat) (h : roundsC vb Q n s = .ok x) : Sem P rh (.loop body) (fun e s => Q e s = .ok x) s := by
 intro X Y w0 env0 ro Qc env F a w hro hb hbase hs hsi hq
 refine wpIn_loop_rounds n ?_
 have key : ∀ (n : Nat) (s : St) (env : Env) (F : Foot) (a : Act) (w : World), roundsC vb Q n s = .ok x → RoAt env0 s.b rh ro → (s.b ≤ s.n) → (∀ k, k < s.b → env k = env0 k) → SatS env s F a w → Since X Y w0 s.H F w →
   (∀ e s' env' F' a' w', Q e s' = .ok x → s'.b = s.b → s'.sz = s.sz → s'.b ≤ s'.n → (∀ k, k < s'.b → env' k = env0 k) → SatS env' s' F' a' w' → Since X Y w0 s'.H F' w' → Qc e a' w') → Code.roundsIn (Wd ro) 0 P body Qc n a w := by
  intro n
  induction n with
  | zero => intro s env F a w h; cases h
  | succ n ih =>
   intro s env F a w h hro hb hbase hs hsi hq
   obtain ⟨fr, H, n2, sz, df, log, b⟩ := s
   unfold roundsC at h
   simp only [spine_eq] at h
   rw [roundsIn_succ]
   refine hv h X Y w0 env0 ro _ env F a w hro hb hbase (hs.congr (fun t => look_clean0) (fun t => look_clean0)) (hsi.congr fun t => look_clean0) ?_
   intro e s' env' F' a' w' hQ h1 h2 h3 h4 h5 h6
   cases e with
   | normal => exact ih s' env' F' a' w' hQ (by rw [h1]; exact hro) h3 h4 h5 h6 fun e s2 env2 F2 a2 w2 q k1 k2 k3 k4 k5 k6 => hq _ _ _ _ _ _ q (k1.trans h1) (k2.trans h2) k3 k4 k5 k6
   | _ => exact hq _ _ _ _ _ _ hQ h1 h2 h3 h4 h5 h6
 exact key n s env F a w h hro hb hbase hs hsi hq
def jumpsC {β : Type} (vr : Code → (Exit → St → Got β) → St → Got β) (b : Code) (Q : Exit → St → Got β) : Nat → Exit → St → Got β
 | 0, e, s => match e with
  | .goto _ => .no .fuel
  | e => Q e s
 | n + 1, e, s => match e with
  | .goto l => match findLabel b l with
   | some rest => match staticC rest, s with
    | true, ⟨fr, H, n2, sz, df, _, bs⟩ => spine (clean fr 0) fun fr => spine (clean H 0) fun H => vr rest (jumpsC vr b Q n) ⟨fr, H, n2, sz, df, [], bs⟩
    | false, _ => .no (.code rest)
   | none => .no (.code b)
  | e => Q e s
theorem jumpsC_sound {P : Program} {β : Type} {x : β} {rh : Option Nat} {vr : Code → (Exit → St → Got β) → St → Got β} (hv : ∀ {c Q s}, staticC c = true → vr c Q s = .ok x → Sem P rh c (fun e s => Q e s = .ok x) s)
  {b : Code} {Q : Exit → St → Got β} {s : St} {n : Nat} (h : Sem P rh b (fun e s => jumpsC vr b Q n e s = .ok x) s) : Sem P rh (.scope b) (fun e s => Q e s = .ok x) s := by
 intro X Y w0 env0 ro Qc env F a w hro hb hbase hs hsi hq
 refine wpIn_scope_unroll n ?_
 have key : ∀ (n : Nat) (e : Exit) (s' : St) (env' : Env) (F' : Foot) (a' : Act) (w' : World), jumpsC vr b Q n e s' = .ok x → s'.b = s.b → s'.sz = s.sz → s'.b ≤ s'.n → (∀ k, k < s'.b → env' k = env0 k) → SatS env' s' F' a' w' →
   Since X Y w0 s'.H F' w' → Jumps (Wd ro) 0 P b Qc n e a' w' := by
  intro n
  induction n with
  | zero =>
   intro e s' env' F' a' w' h1 h2 h3 h4 h5 h6 h7
   cases e with
   | goto l => unfold jumpsC at h1; cases h1
   | _ => exact hq _ _ _ _ _ _ h1 h2 h3 h4 h5 h6 h7
  | succ n ih =>
   intro e s' env' F' a' w' h1 h2 h3 h4 h5 h6 h7
   cases e with
   | goto l =>
    unfold jumpsC at h1
    simp only at h1
    split at h1
    ·rename_i rest hf
     split at h1
     ·rename_i fr H n2 sz df log bs hst
      simp only [spine_eq] at h1
      refine ⟨rest, hf, ?_⟩
      refine hv hst h1 X Y w0 env0 ro _ env' F' a' w' (by have := h2; simp only at this; rw [this]; exact hro) h4 h5 (h6.congr (fun t => look_clean0) (fun t => look_clean0)) (h7.congr fun t => look_clean0) ?_
      intro e s2 env2 F2 a2 w2 q k1 k2 k3 k4 k5 k6
      exact ih e s2 env2 F2 a2 w2 q (k1.trans h2) (k2.trans h3) k3 k4 k5 k6
     ·cases h1
    ·cases h1
   | _ => exact hq _ _ _ _ _ _ h1 h2 h3 h4 h5 h6 h7
 exact h X Y w0 env0 ro _ env F a w hro hb hbase hs hsi fun e s' env' F' a' w' h1 h2 h3 h4 h5 h6 h7 => key n e s' env' F' a' w' h1 h2 h3 h4 h5 h6 h7
structure Hs where
 c : CallH
 d : CallH
 r : Nat → List AV → Heap → Heap → Nat → Got (AV × Heap × Nat)
def DefOK (P : Program) (C : CallH) : Prop := ∀ {g vs pre R n v post n'}, C g vs pre R n = .ok (v, post, n') → CtrD P g vs R pre n n' v post
def RCtr (P : Program) (h : Nat) (us : List AV) (R pre : Heap) (n n' : Nat) (v : AV) (post : Heap) : Prop :=
 n ≤ n' ∧ domB pre post = true ∧ (∃ L, look (pre ++ R) h = some (.loop L) ∧ L.ps.size = us.length) ∧ ∀ (env : Env) (F : Foot) (w : World) (xs : Array Value) (l : Nat) (rec : Loop), Dens env us xs.toList → env h = some (.pointer (some ⟨l, 0, none⟩)) →
  w.heap[l]? = some (.loop rec) → SatH env (pre ++ R) F w → (∀ k, n ≤ k → k < n' → env k = none) →
  RoundIn (Wd none) 0 P l rec.fn ((rec.params.zip xs).foldl (fun tmps (t, a) => tmps.setIfInBounds t a) rec.tmps) rec.assign rec.body w fun e w' => ∃ env' F' x, e = .returned x ∧ Turn n n' R pre post env F w env' F' w' ∧ Den env' v x
def RoundOK (P : Program) (C : Nat → List AV → Heap → Heap → Nat → Got (AV × Heap × Nat)) : Prop := ∀ {h us pre R n v post n'}, C h us pre R n = .ok (v, post, n') → RCtr P h us R pre n n' v post
structure HsOK (P : Program) (E : Hs) : Prop where
 c : CallOK P E.c
 d : DefOK P E.d
 r : RoundOK P E.r
def yieldG (E : Hs) {β : Type} (h : Nat) (us : List AV) (o : Oper) (s : St) (K : St → Got β) : Got β :=
 match s with
 | ⟨fr, H, n, sz, df, log, b⟩ => match reach H far (h :: hsL us []) 0 [] with
  | none => .no .fuel
  | some acc => match E.r h us (filterR acc exB) (filterR acc roP) n with
   | .no w => .no (.call h w)
   | .ok (v, post, n') => appK post H fun H' => putP (base β) o v fr H' n' sz df log b (keysR (filterR acc roP)) (keysR post) K
theorem yield_at {P : Program} {h : Nat} {us : List AV} {R pre post : Heap} {n n' : Nat} {v : AV} (spec : RCtr P h us R pre n n' v post) {o : Oper} {fr : Fr} (hcall : IsYield o fr h us) : TripleY P o fr R pre n n' v post := by
 obtain ⟨_, _, ⟨L, hL, hsz⟩, spec⟩ := spec
 intro ro env F a w next Q hneed hsat hfresh hk
 obtain ⟨c, f, h1, h2, h3, h4⟩ := hcall
 have hf : f ∈ o.op.operands := by rw [h1]; simp [Op.operands, Call.operands, h2]
 have d1 := ev_den hneed hf h3
 have d2 := evs_den hneed (by intro x hx; rw [h1]; simp only [Op.operands, Call.operands]; exact Array.mem_append.2 (.inr (by simpa using hx))) h4
 simp only [Den] at d1
 obtain ⟨l, hl, hx⟩ := d1
 obtain ⟨v1, hv1, b1, rec, e1, e2, e3, e4⟩ := hsat.sat hL
 rw [hl] at hv1; cases hv1
 simp only [Value.pointer.injEq, Option.some.injEq, Addr.mk.injEq, and_true] at e1
 subst e1
 have hlen := d2.length
 have hrun : (execOp a.eval o).run P w = (Instr.yield l (c.args.map a.eval)).run P w := by
  simp [execOp, h1, resolve, h2, hx, Deferred.ofValue, invoke]
 have hps : (c.args.map a.eval).size = rec.params.size := by
  rw [e4.ps, hsz, hlen]; simp
 refine ⟨fun _ _ => trivial, ?_⟩
 rw [Oper.semAt_eq _ _ o (by rw [h1]; simp), hrun, run_yield e3 hps]
 refine ⟨wd_depth ro, ?_⟩
 have hR := spec env F w (c.args.map a.eval) l rec (by simpa using d2) hl e3 hsat hfresh
 refine RoundIn.mono (show RoundIn (Wd ro) 0 P l rec.fn _ rec.assign rec.body w _ from hR) ?_
 rintro e w' ⟨env', F', x, rfl, t, hden⟩
 exact hk env' F' x w' t hden
theorem yieldG_ok {P : Program} {E : Hs} (hE : HsOK P E) {β : Type} {x : β} {h0 : Nat} {us : List AV} {o : Oper} {s : St} {K : St → Got β} (h : yieldG E h0 us o s K = .ok x) : YieldStop P h0 us o s (fun s => K s = .ok x) := by
 obtain ⟨fr, H, n, sz, df, log, b⟩ := s
 intro hcall
 unfold yieldG at h
 simp only at h
 split at h
 ·cases h
 ·rename_i acc hacc
  have hmem := reach_mem (by simp) hacc
  split at h
  ·cases h
  ·rename_i v post n' hc
   rw [appK_eq, putP_eq, keysR_eq, keysR_eq] at h
   obtain ⟨k1, k2⟩ := putM_iff (baseOK P x) h
   have hspec := hE.r hc
   refine ⟨⟨true, filterR acc roP, filterR acc exB, post, n, n', v, keysOf (filterR acc roP), keysOf post⟩, rfl, rfl, hspec.1, k1, yield_at hspec hcall, sub_filter hmem _, sub_filter hmem _, domB_ok hspec.2.1,
    fun k x hk => look_map_dom hk, fun k x hk => look_map_dom hk, k2⟩
def afterG {β : Type} (lh : Nat) (Q : Exit → St → Got β) (fr : Fr) (H : Heap) (n sz : Nat) (df : List Df) (b : Nat) : Got β :=
 match look H lh with
 | some (.loop L) => match L.st, L.pend with
  | .busy, _ => .no .bad
  | _, none => Q .normal ⟨fr, (lh, .gone) :: H, n, sz, df, [], b⟩
  | _, some .ret => Q .ret ⟨fr, (lh, .gone) :: H, n, sz, df, [], b⟩
  | _, some (.exit i) => Q (.exit i) ⟨fr, (lh, .gone) :: H, n, sz, df, [], b⟩
  | _, some (.goto i) => Q (.goto i) ⟨fr, (lh, .gone) :: H, n, sz, df, [], b⟩
  | _, some c => .no (.code c)
 | _ => .no .bad
def rangeC (E : Hs) {β : Type} (g : FuncId) (vs : List AV) (lh : Nat) (Q : Exit → St → Got β) (fr : Fr) (H : Heap) (n sz : Nat) (df : List Df) (b : Nat) : Got β :=
 match reach H far (hsL vs []) 0 [] with
 | none => .no .fuel
 | some acc => match E.c g vs (filterR acc exB) (filterR acc roP) n with
  | .no w => .no (.call g w)
  | .ok (_, post, n') => appK post H fun H' => afterG lh Q fr H' n' sz df b
def rangeG (E : Hs) (rh : Option Nat) {β : Type} (f : Operand) (ps : Array Tmp) (as body : Code) (Q : Exit → St → Got β) (s : St) : Got β :=
 match s with
 | ⟨fr, H, n, sz, df, _, b⟩ => match ev fr f with
  | some (.fn (.func g) first cap) => match rh with
   | none => spine (clean fr 0) fun fr1 => rangeC E g (first ++ (.yld (n + 1) :: cap)) (n + 1) Q fr ((n + 1, .loop ⟨fr1, sz, ps, as, body, .ready, none, n⟩) :: (n, .dblk) :: H) (n + 2) sz (.mark n :: df) b
   | some h0 => match look H h0 with
    | some (.loop L0) => spine (clean fr 0) fun fr1 => rangeC E g (first ++ (.yld n :: cap)) n Q fr ((n, .loop ⟨fr1, sz, ps, as, body, .ready, none, L0.dh⟩) :: H) (n + 1) sz df b
    | _ => .no .bad
  | _ => .no (.code body)
theorem afterG_ok {P : Program} {β : Type} {x : β} {rh ro : Option Nat} {lh : Nat} {Q : Exit → St → Got β} {fr : Fr} {H : Heap} {n sz : Nat} {df : List Df} {b : Nat} (h : afterG lh Q fr H n sz df b = .ok x) {X Y : Nat → Prop} {w0 : World} {env0 env : Env}
  {Qc : Exit → Act → World → Prop} {F : Foot} {a : Act} {w : World} {l : Nat} (hro : RoAt env0 b rh ro) (hb : b ≤ n) (hbase : ∀ k, k < b → env k = env0 k) (hl : env lh = some (.pointer (some ⟨l, 0, none⟩))) (hs : SatS env ⟨fr, H, n, sz, df, [], b⟩ F a w) (hsi : Since X Y w0 H F w)
  (hq : ∀ e s' env' F' a' w', Q e s' = .ok x → s'.b = b → s'.sz = sz → s'.b ≤ s'.n → (∀ k, k < s'.b → env' k = env0 k) → SatS env' s' F' a' w' → Since X Y w0 s'.H F' w' → Qc e a' w') :
  ∃ jump w₄, (Instr.endLoop l).run P w = .ok jump w₄ ∧ (match jump with | none => Qc .normal a w₄ | some c => c.wpIn (Wd ro) 0 P Qc a w₄) := by
 have _ := hro
 unfold afterG at h
 split at h
 ·rename_i L hL
  obtain ⟨v1, hv1, b1, rec, e1, e2, e3, e4⟩ := hs.heap.sat hL
  rw [hl] at hv1; cases hv1
  simp only [Value.pointer.injEq, Option.some.injEq, Addr.mk.injEq, and_true] at e1
  subst e1
  have ht : Turn n n [] [(lh, Res.loop L)] [(lh, Res.gone)] env F w env (fun _ _ => False) (w.putObj l (.loop { rec with state := .exhausted })) := by
   refine ⟨Env.le.refl _, fun _ _ => rfl, ⟨?_, ?_⟩, ?_, ⟨rfl, rfl, rfl, by simp, ?_⟩⟩
   ·intro k r0 hk
    obtain ⟨rfl, rfl⟩ := look_one hk
    exact ⟨_, hl, fun _ h => h⟩
   ·intro k r0 k' r1 hk hk' hne
    obtain ⟨rfl, rfl⟩ := look_one hk
    obtain ⟨rfl, rfl⟩ := look_one hk'
    exact absurd rfl hne
   ·intro k r0 x _ hx; exact hx.elim
   ·intro k _ hk
    exact World.putObj_heap_other (fun e' => hk ⟨lh, .loop L, by simp [lookC, Nat.beq_refl], rfl, (e2 k).2 e'⟩)
  obtain ⟨F'', q1, q2⟩ := turn_step ht hs.heap hsi sub_nil (sub_one hL) dom_self
  have hS : SatS env ⟨fr, (lh, .gone) :: H, n, sz, df, [], b⟩ F'' a (w.putObj l (.loop { rec with state := .exhausted })) := ⟨hs.size, hs.defers, hs.val, q1, hs.fresh⟩
  have go : ∀ {e : Exit}, Q e ⟨fr, (lh, .gone) :: H, n, sz, df, [], b⟩ = .ok x → Qc e a (w.putObj l (.loop { rec with state := .exhausted })) := fun hQ => hq _ _ _ _ _ _ hQ rfl rfl hb hbase hS q2
  have hrun : L.st ≠ .busy → (Instr.endLoop l).run P w = .ok rec.pending (w.putObj l (.loop { rec with state := .exhausted })) := fun hb => run_endLoop e3 (by rw [e4.st]; exact hb)
  clear q1 q2 hS ht
  generalize w.putObj l (.loop { rec with state := .exhausted }) = W4 at go hrun
  rw [e4.pend] at hrun
  split at h
  ·cases h
  ·rename_i hpd hnb
   exact ⟨_, _, hrun hnb, by rw [hpd]; exact go h⟩
  ·rename_i hpd hnb
   exact ⟨_, _, hrun hnb, by rw [hpd]; exact wpIn_ret (go h)⟩
  ·rename_i hpd hnb
   exact ⟨_, _, hrun hnb, by rw [hpd]; exact wpIn_exit (go h)⟩
  ·rename_i hpd hnb
   exact ⟨_, _, hrun hnb, by rw [hpd]; exact wpIn_goto (go h)⟩
  ·cases h
 ·cases h
theorem rangeC_ok {P : Program} {E : Hs} (hE : HsOK P E) {β : Type} {x : β} {rh ro : Option Nat} {g : FuncId} {vs : List AV} {lh : Nat} {Q : Exit → St → Got β} {fr : Fr} {H : Heap} {n sz : Nat} {df : List Df} {b : Nat}
  (h : rangeC E g vs lh Q fr H n sz df b = .ok x) {X Y : Nat → Prop} {w0 : World} {env0 env : Env} {Qc : Exit → Act → World → Prop} {F : Foot} {a : Act} {w : World} {l : Nat} {xs : Array Value} (hro : RoAt env0 b rh ro) (hb : b ≤ n) (hbase : ∀ k, k < b → env k = env0 k)
  (hl : env lh = some (.pointer (some ⟨l, 0, none⟩))) (hv : Dens env vs xs.toList) (hs : SatS env ⟨fr, H, n, sz, df, [], b⟩ F a w) (hsi : Since X Y w0 H F w)
  (hq : ∀ e s' env' F' a' w', Q e s' = .ok x → s'.b = b → s'.sz = sz → s'.b ≤ s'.n → (∀ k, k < s'.b → env' k = env0 k) → SatS env' s' F' a' w' → Since X Y w0 s'.H F' w' → Qc e a' w') :
  HasBody P g = true ∧ Calls P g xs w fun e w₃ => rangePost (Wd ro) 0 P l Qc a e w₃ := by
 unfold rangeC at h
 split at h
 ·cases h
 ·rename_i acc hacc
  have hmem := reach_mem (by simp) hacc
  split at h
  ·cases h
  ·rename_i v post n' hc
   rw [appK_eq] at h
   obtain ⟨hbody, hnn, hdom, spec⟩ := hE.c hc
   refine ⟨hbody, ?_⟩
   have hR : Sub (filterR acc roP) H := sub_filter hmem _
   have hp : Sub (filterR acc exB) H := sub_filter hmem _
   have hpart : SatH env (filterR acc exB ++ filterR acc roP) F w := hs.heap.part (fun k r hk => sub_append hp hR k r hk)
   refine (spec env F w xs hv hpart (fun k hk _ => hs.fresh k hk)).mono ?_
   rintro e w' ⟨env', F', y, rfl, t, hy⟩
   obtain ⟨F'', q1, q2⟩ := turn_step t hs.heap hsi hR hp (domB_ok hdom)
   have hS : SatS env' ⟨fr, post ++ H, n', sz, df, [], b⟩ F'' a w' := by
    refine ⟨hs.size, hs.defers.mono t.le, fun t' v hv => ?_, q1, ?_⟩
    ·obtain ⟨x, h1, h2⟩ := hs.val t' v hv
     exact ⟨x, h1, Den.mono t.le v h2⟩
    ·intro k hk
     simp only at hk
     rw [t.only k (by omega)]; exact hs.fresh k (by simp only; omega)
   exact afterG_ok h hro (by omega) (fun k hk => by rw [t.only k (by omega)]; exact hbase k hk) (t.le _ _ hl) hS q2 hq
theorem rangeG_ok {P : Program} {E : Hs} (hE : HsOK P E) {β : Type} {x : β} {rh : Option Nat} {f : Operand} {ps : Array Tmp} {as body : Code} {Q : Exit → St → Got β} {s : St} (hst1 : staticC as = true) (hst2 : staticC body = true)
  (h : rangeG E rh f ps as body Q s = .ok x) : Sem P rh (.rangeFunc f ps as body) (fun e s => Q e s = .ok x) s := by
 obtain ⟨fr, H, n, sz, df, log, b⟩ := s
 intro X Y w0 env0 ro Qc env F a w hro hb hbase hs hsi hq
 simp only at hb hbase hro
 unfold rangeG at h
 simp only at h
 split at h
 ·rename_i g first cap hf
  have hfd : Den env (.fn (.func g) first cap) (a.eval f) :=
   ev_den (o := { dst := none, op := .move f, type := 0, pos := "", after := #[], guard := none }) (fr := fr) (fun t _ v hv => hs.val t v hv) (by simp [Op.operands]) hf
  simp only [Den] at hfd
  obtain ⟨xs, ys, hx, d3, d4⟩ := hfd
  refine wpIn_rangeFunc ?_
  intro fn _
  have call : ∀ {env1 : Env} {F1 : Foot} {w1 : World} {lh l nn : Nat} {H1 : Heap} {df1 : List Df} {mark : List Deferred}, env.le env1 → rangeC E g (first ++ (.yld lh :: cap)) lh Q fr H1 nn sz df1 b = .ok x → b ≤ nn → (∀ k, k < b → env1 k = env0 k) →
    env1 lh = some (.pointer (some ⟨l, 0, none⟩)) → SatS env1 ⟨fr, H1, nn, sz, df1, [], b⟩ F1 { a with defers := mark ++ a.defers } w1 → Since X Y w0 H1 F1 w1 → (Instr.enterLoop fn a.tmps ps as body (Wd ro).round).run P w = .ok (l, mark) w1 →
    ∃ (l : Nat) (mark : List Deferred) (w₁ : World) (d : Deferred) (w₁' : World) (f' : FuncId) (args : Array Value) (w₂ : World),
     (Instr.enterLoop fn a.tmps ps as body (Wd ro).round).run P w = .ok (l, mark) w₁ ∧ (resolve a.eval (rangeCall f l) 0).run P w₁ = .ok d w₁' ∧ (∀ f'', Target.leads P w₁' d.target d.args = some f'' → (Wd ro).fn f'') ∧
     (invoke d.target d.args).run P w₁' = .ok (.enter f' args) w₂ ∧ ((Wd ro).depth.isSome = true → 1 ≤ 0) ∧ CallsIn (Wd ro) (0 - 1) P f' args w₂ (rangePost (Wd ro) 0 P l Qc { a with defers := mark ++ a.defers }) := by
   intro env1 F1 w1 lh l nn H1 df1 mark hle hC hb1 hbase1 hl hS hsi1 hent
   have hdens : Dens env1 (first ++ (.yld lh :: cap)) (xs ++ #[Value.func (.yield l) #[] #[]] ++ ys).toList := by
    have e1 := Dens.mono hle first d3
    have e2 : Dens env1 (.yld lh :: cap) (Value.func (.yield l) #[] #[] :: ys.toList) := by
     simp only [Dens]
     exact ⟨_, _, rfl, by simp only [Den]; exact ⟨l, hl, rfl⟩, Dens.mono hle cap d4⟩
    have := e1.append e2
    simpa using this
   obtain ⟨hbody, hcalls⟩ := rangeC_ok (rh := rh) (ro := ro) hE hC hro hb1 hbase1 hl hdens hS hsi1 hq
   refine ⟨l, mark, w1, { target := .fn (.func g) ys, args := xs ++ #[Value.func (.yield l) #[] #[]] }, w1, g, xs ++ #[Value.func (.yield l) #[] #[]] ++ ys, w1, hent, ?_, fun _ _ => trivial, ?_, wd_depth ro, callsIn_wd.2 hcalls⟩
   ·simp only [resolve, hx]
    simp [Deferred.ofValue, Act.eval]
   ·simp only [invoke]; exact hasBody_run hbody _ _
  have recd : ∀ {env1 : Env} {r : Loop} {dh D : Nat}, env.le env1 → env1 dh = some (.pointer (some ⟨D, 0, none⟩)) → r = { state := .ready, pending := none, fn, tmps := a.tmps, params := ps, assign := as, body := body, defers := D } →
    LoopSat env1 ⟨clean fr 0, sz, ps, as, body, .ready, none, dh⟩ r := by
   intro env1 r dh D hle hd hr
   subst hr
   refine ⟨hs.size, rfl, rfl, rfl, rfl, rfl, hd, fun t v hv => ?_, hst1, hst2⟩
   have hv : look (clean fr 0) t = some v := hv
   rw [look_clean0] at hv
   obtain ⟨y, h1, h2⟩ := hs.val t v hv
   exact ⟨y, h1, Den.mono hle v h2⟩
  have fresh : ∀ k, n ≤ k → env k = none := hs.fresh
  cases rh with
  | none =>
   obtain rfl := hro.none_
   simp only [spine_eq] at h
   have t1 : Turn n (n + 1) [] [] [(n, Res.dblk)] env F w (env.set n (.pointer (some ⟨w.heap.size, 0, none⟩))) (fun _ b => b = w.heap.size) (w.alloc (.deferred (some []))) :=
    Turn.newR (fresh n (Nat.le_refl _)) ⟨_, rfl, fun _ => Iff.rfl, alloc_at _ _⟩
   obtain ⟨F1, p1, p2⟩ := turn_step t1 hs.heap hsi sub_nil sub_nil (by simp [lookN, lookC])
   generalize henv1 : env.set n (.pointer (some ⟨w.heap.size, 0, none⟩)) = env1 at t1 p1
   have hn1 : env1 (n + 1) = none := by rw [← henv1]; unfold Env.set; rw [if_neg (by omega)]; exact fresh _ (by omega)
   have hn0 : env1 n = some (.pointer (some ⟨w.heap.size, 0, none⟩)) := by rw [← henv1]; exact Env.set_same _ _ _
   have hwsz : (w.alloc (.deferred (some []))).heap.size = w.heap.size + 1 := by simp
   have t2 : Turn (n + 1) (n + 2) [] [] [(n + 1, Res.loop ⟨clean fr 0, sz, ps, as, body, .ready, none, n⟩)] env1 F1 (w.alloc (.deferred (some []))) (env1.set (n + 1) (.pointer (some ⟨w.heap.size + 1, 0, none⟩))) (fun _ b => b = w.heap.size + 1)
     ((w.alloc (.deferred (some []))).alloc (.loop { state := .ready, pending := none, fn, tmps := a.tmps, params := ps, assign := as, body := body, defers := w.heap.size })) := by
    have := Turn.newR (n := n + 1) (R := []) (F := F1) (w := w.alloc (.deferred (some []))) (o := .loop { state := .ready, pending := none, fn, tmps := a.tmps, params := ps, assign := as, body := body, defers := w.heap.size })
     (r := Res.loop ⟨clean fr 0, sz, ps, as, body, .ready, none, n⟩) (v := .pointer (some ⟨w.heap.size + 1, 0, none⟩)) hn1 (by
      rw [hwsz]
      refine ⟨_, _, rfl, fun _ => Iff.rfl, by rw [← hwsz]; exact alloc_at _ _, recd (t1.le.trans (Env.le_set hn1)) (Env.le_set hn1 _ _ hn0) rfl⟩)
    rw [hwsz] at this
    exact this
   obtain ⟨F2, p3, p4⟩ := turn_step t2 p1 p2 sub_nil sub_nil (by simp [lookN, lookC])
   have hle2 := t1.le.trans t2.le
   refine call (nn := n + 2) (df1 := .mark n :: df) hle2 h (by omega) ?_ (Env.set_same _ _ _) ⟨hs.size, ?_, ?_, p3, ?_⟩ p4 (run_enterLoop_outer _ _ _ _ _)
   ·intro k hk
    rw [t2.only k (by omega), t1.only k (by omega)]; exact hbase k hk
   ·simp only [DenD]
    exact ⟨_, _, rfl, ⟨_, rfl, t2.le _ _ hn0⟩, hs.defers.mono hle2⟩
   ·intro t v hv
    obtain ⟨y, h1, h2⟩ := hs.val t v hv
    exact ⟨y, h1, Den.mono hle2 v h2⟩
   ·intro k hk
    simp only at hk
    rw [t2.only k (by omega), t1.only k (by omega)]; exact fresh k (by omega)
  | some h0 =>
   cases ro with
   | none => exact hro.elim
   | some l0 =>
    obtain ⟨hr1, hr2⟩ := hro
    simp only at h
    split at h
    ·rename_i L0 hL0
     simp only [spine_eq] at h
     obtain ⟨v1, hv1, b1, r0, e1, e2, e3, e4⟩ := hs.heap.sat hL0
     rw [hbase _ hr1, hr2] at hv1; cases hv1
     simp only [Value.pointer.injEq, Option.some.injEq, Addr.mk.injEq, and_true] at e1
     subst e1
     have hn1 : env n = none := fresh n (Nat.le_refl _)
     have t2 : Turn n (n + 1) [] [] [(n, Res.loop ⟨clean fr 0, sz, ps, as, body, .ready, none, L0.dh⟩)] env F w (env.set n (.pointer (some ⟨w.heap.size, 0, none⟩))) (fun _ b => b = w.heap.size)
       (w.alloc (.loop { state := .ready, pending := none, fn, tmps := a.tmps, params := ps, assign := as, body := body, defers := r0.defers })) :=
      Turn.newR hn1 ⟨_, _, rfl, fun _ => Iff.rfl, alloc_at _ _, recd (Env.le_set hn1) (Env.le_set hn1 _ _ e4.dh) rfl⟩
     obtain ⟨F2, p3, p4⟩ := turn_step t2 hs.heap hsi sub_nil sub_nil (by simp [lookN, lookC])
     refine call (mark := []) (nn := n + 1) (df1 := df) t2.le h (by omega) ?_ (Env.set_same _ _ _) ⟨hs.size, ?_, ?_, p3, ?_⟩ p4 ?_
     ·intro k hk
      rw [t2.only k (by omega)]; exact hbase k hk
     ·simpa using hs.defers.mono t2.le
     ·intro t v hv
      obtain ⟨y, h1, h2⟩ := hs.val t v hv
      exact ⟨y, h1, Den.mono t2.le v h2⟩
     ·intro k hk
      simp only at hk
      rw [t2.only k (by omega)]; exact fresh k (by omega)
     ·simp only [Wd]
      unfold Instr.enterLoop
      simp only [Sem.run_bind, run_getLoop e3, Result.andThen, Sem.run_pure, run_newObj_alloc]
    ·cases h
 ·cases h
def GetL (T : Tab) (E : Hs) (pu : Pure) (rh : Option Nat) (β : Type) : Nat → Ans (Got β)
 | 0 => { base β with
   dfr := match rh with | none => true | some _ => false
   call := callG E.c pu
   yld := yieldG E
   loop := fun vb _ Q s => roundsC vb Q far s
   range := fun f ps as _ b Q s => rangeG E rh f ps as b Q s }
 | k + 1 => { base β with
   dfr := match rh with | none => true | some _ => false
   call := callG E.c pu
   yld := yieldG E
   loop := fun vb _ Q s => roundsC vb Q far s
   scope := fun vb b Q s => vb (jumpsC (vcCode (GetL T E pu rh β k) T) b Q far) s
   range := fun f ps as _ b Q s => rangeG E rh f ps as b Q s }
def Get (T : Tab) (E : Hs) (pu : Pure) (rh : Option Nat) (β : Type) : Ans (Got β) := GetL T E pu rh β 4
theorem getQ {T : Tab} {E : Hs} {pu : Pure} {rh : Option Nat} {c : Code} : vcCodeQ (Get T E pu rh _) T c = vcCode (Get T E pu rh _) T c :=
 vcCodeQ_eq' ⟨fun _ _ _ _ => rfl⟩ rfl c
def frZ (i : Nat) (l : List AV) : (Fr → G) → G := List.rec (motive := fun _ => Nat → (Fr → G) → G) (fun _ K => K []) (fun v _ ih i K => ih (Nat.succ i) fun fr => numK i fun i => forceQ v fun v => K ((i, v) :: fr)) l i
theorem frZ_eq : ∀ {l : List AV} {i : Nat} {K : Fr → G}, frZ i l K = K (frOf i l)
 | [], _, _ => rfl
 | v :: l, i, K => by
  show (frZ (i + 1) l fun fr => numK i fun i => forceQ v fun v => K ((i, v) :: fr)) = _
  rw [frZ_eq (l := l), numK_eq, forceQ_eq]; rfl
theorem getOK {P : Program} {T : Tab} (hT : TabOK P T) (hm : P.follows .mixedOrders = true) {E : Hs} (hE : HsOK P E) {pu : Pure} (hp : PureOK P pu) {rh : Option Nat} {β : Type} (x : β) : ∀ k, CodeAns P rh (GetL T E pu rh β k) (fun a => a = .ok x) := by
 intro k
 induction k with
 | zero =>
  exact {
   bad := (baseOK P x).bad
   ob := (baseOK P x).ob
   bc := (baseOK P x).bc
   pre := fun h => .inr h
   stop := by intro o s K h; cases h
   call := fun h => callG_ok hE.c hp h
   yld := fun h => yieldG_ok hE h
   dfr := fun h => by cases rh with | none => rfl | some _ => cases h
   loop := fun hv _ h => roundsC_sound hv _ h
   scope := by intro vb b Q s _ _ h; cases h
   range := fun _ h1 h2 h => rangeG_ok hE h1 h2 h }
 | succ k ih =>
  exact {
   bad := (baseOK P x).bad
   ob := (baseOK P x).ob
   bc := (baseOK P x).bc
   pre := fun h => .inr h
   stop := by intro o s K h; cases h
   call := fun h => callG_ok hE.c hp h
   yld := fun h => yieldG_ok hE h
   dfr := fun h => by cases rh with | none => rfl | some _ => cases h
   loop := fun hv _ h => roundsC_sound hv _ h
   scope := fun hv _ h => jumpsC_sound (fun hst h => vcCode_sound' hT hm ih _ h hst) (hv h)
   range := fun _ h1 h2 h => rangeG_ok hE h1 h2 h }
def keepB (n : Nat) (p : Nat × Res) : Bool := match p.2.excl with | true => true | false => Nat.ble n p.1
def finE (n : Nat) (pre : Heap) (v : AV) (H : Heap) (n' : Nat) : Got (AV × Heap × Nat) :=
 match reach H far (hsA v (keysOf pre)) 0 [] with
 | none => .no .fuel
 | some acc => spine (filterR acc (keepB n)) fun post => .ok (v, post, n')
theorem finE_ok {n n0 n' : Nat} {pre post H : Heap} {v0 v : AV} (h : finE n pre v0 H n0 = .ok (v, post, n')) : v0 = v ∧ n0 = n' ∧ ∀ p ∈ post, look H p.1 = some p.2 := by
 unfold finE at h
 split at h
 ·cases h
 ·rename_i acc hacc
  rw [spine_eq] at h
  simp only [Got.ok.injEq, Prod.mk.injEq] at h
  obtain ⟨h1, h2, h3⟩ := h
  refine ⟨h1, h3, ?_⟩
  intro p hp
  rw [← h2, filterR_eq, List.mem_filter] at hp
  exact reach_mem (by simp) hacc p hp.1
def outE (n : Nat) (pre : Heap) (r : Got (AV × Heap × Nat)) : Got (AV × Heap × Nat) :=
 match r with
 | .no w => .no w
 | .ok (v, post, n') => match Nat.ble n n' && (domM pre (keysM post 0) && (okH n' post && okA n' v)) with
  | true => .ok (v, post, n')
  | false => .no (.exit n pre v post n')
mutual
theorem renA_id {π : Nat → Nat} (h : ∀ k, π k = k) : ∀ v : AV, renA π v = v
 | .bool _ | .int _ _ | .str _ | .nilp | .nils | .nilm | .nilf | .nili | .raw _ => by simp [renA]
 | .hd _ | .sl _ _ | .ptr _ _ | .el _ _ _ _ | .slc _ _ _ _ | .sv _ _ _ _ _ | .yld _ => by simp [renA, h]
 | .agg l => by simp [renA, renL_id h l]
 | .tup l => by simp [renA, renL_id h l]
 | .iface _ v => by simp [renA, renA_id h v]
 | .fn _ l m => by simp [renA, renL_id h l, renL_id h m]
theorem renL_id {π : Nat → Nat} (h : ∀ k, π k = k) : ∀ l : List AV, renL π l = l
 | [] => by simp [renL]
 | v :: l => by simp [renL, renA_id h v, renL_id h l]
end
theorem renM_id {π : Nat → Nat} (h : ∀ k, π k = k) : ∀ l : List (AV × AV), renM π l = l
 | [] => rfl
 | (k, v) :: l => by simp [renM, renA_id h, renM_id h l]
theorem renF_id {π : Nat → Nat} (h : ∀ k, π k = k) : ∀ l : List (Nat × AV), renF π l = l
 | [] => rfl
 | (t, v) :: l => by simp [renF, renA_id h, renF_id h l]
theorem renR_id {π : Nat → Nat} (h : ∀ k, π k = k) (r : Res) : renR π r = r := by cases r <;> simp [renR, renL_id h, renM_id h, renF_id h, h]
theorem nodupB_range (m : Nat) : ∀ n, nodupB (List.range' n m) = true := by
 induction m with
 | zero => intro n; rfl
 | succ m ih =>
  intro n
  rw [List.range'_succ]
  simp only [nodupB, Bool.and_eq_true, Bool.not_eq_true', ih (n + 1), and_true]
  rw [List.any_eq_false]
  intro x hx
  rw [List.mem_range'_1] at hx
  intro hb
  have := Nat.eq_of_beq_eq_true hb
  omega
theorem fs_range {n m : Nat} (k : Nat) : fs n (List.range' n m) k = k := by
 unfold fs
 split
 ·rfl
 ·rename_i hb
  have hge : n ≤ k := by
   rcases Nat.lt_or_ge k n with h | h
   ·have : Nat.blt k n = true := by simpa using h
    rw [this] at hb; cases hb
   ·exact h
  rw [nth_eq]
  by_cases hk : k - n < m
  ·rw [List.getElem?_range' (by simpa using hk)]; simp; omega
  ·rw [List.getElem?_eq_none (by simp; omega)]
theorem Fin.same {n n' : Nat} {r : AV} {post H : Heap} (h1 : okH n' post = true) (h2 : okA n' r = true) (h3 : ∀ p ∈ post, look H p.1 = some p.2) : Fin n n' r post r H := by
 refine ⟨List.range' n (n' - n), by simp, nodupB_range _ _, ?_, h1, h2, (renA_id (fun k => fs_range k) r).symm, ?_⟩
 ·rw [List.all_eq_true]
  intro x hx
  rw [List.mem_range'_1] at hx
  simpa using hx.1
 ·have key : ∀ l : Heap, (∀ p ∈ l, look H p.1 = some p.2) → HasAll H (fs n (List.range' n (n' - n))) l := by
   intro l
   induction l with
   | nil => intro _; trivial
   | cons p l ih =>
    obtain ⟨k, r0⟩ := p
    intro h
    refine ⟨?_, ih fun p hp => h p (List.mem_cons_of_mem _ hp)⟩
    rw [fs_range, renR_id (fun k => fs_range k)]
    exact h _ List.mem_cons_self
  exact key _ h3
theorem domM_ok {post : Heap} : ∀ {pre : Heap}, domM pre (keysM post 0) = true → domB pre post = true
 | [], _ => rfl
 | (k, r) :: l, h => by
  simp only [domM_cons, Bool.and_eq_true] at h
  unfold domB
  rw [List.all_cons, Bool.and_eq_true]
  refine ⟨?_, domM_ok h.2⟩
  rcases keysM_in h.1 with h0 | ⟨x, hx⟩
  ·rw [inM_zero] at h0; cases h0
  ·rw [List.any_eq_true]
   exact ⟨_, look_mem hx, Nat.beq_refl _⟩
theorem Sem.mono {P : Program} {rh : Option Nat} {c : Code} {Q Q' : Exit → St → Prop} {s : St} (h : Sem P rh c Q s) (hq : ∀ e s, Q e s → Q' e s) : Sem P rh c Q' s :=
 fun X Y w0 env0 ro Qc env F a w h0 h1 h2 h3 h4 h5 => h X Y w0 env0 ro Qc env F a w h0 h1 h2 h3 h4 fun e s' env' F' a' w' k => h5 e s' env' F' a' w' (hq _ _ k)
def leaveC (E : Hs) (T : Tab) (rs : List ResultVar) (n0 : Nat) (pre : Heap) (fr : Fr) : List Df → Heap → Nat → Got (AV × Heap × Nat)
 | [], H, n => match resL T fr H rs with
  | some l => forceQ (outV l) fun v => finE n0 pre v H n
  | none => .no .bad
 | .mark h :: r, H, n => match look H h with
  | some .dblk => leaveC E T rs n0 pre fr r ((h, .gone) :: H) n
  | _ => .no .bad
 | .call g vs :: r, H, n => match reach H far (hsL vs []) 0 [] with
  | none => .no .fuel
  | some acc => match E.d g vs (filterR acc exB) (filterR acc roP) n with
   | .no w => .no (.call g w)
   | .ok (_, post, n') => appK post H fun H' => leaveC E T rs n0 pre fr r H' n'
theorem leaveC_ok {P : Program} {T : Tab} {E : Hs} (hE : HsOK P E) {rs : List ResultVar} {n0 : Nat} {pre : Heap} {fr : Fr} {v1 : AV} {post1 : Heap} {n1 : Nat} : ∀ {df : List Df} {H : Heap} {n : Nat}, leaveC E T rs n0 pre fr df H n = .ok (v1, post1, n1) →
  LeaveQ P T rs fr (fun v H _ => v = v1 ∧ ∀ p ∈ post1, look H p.1 = some p.2) df H n
 | [], H, n, h => by
  unfold leaveC at h
  split at h
  ·rename_i l hl
   rw [forceQ_eq] at h
   obtain ⟨e1, e2, e3⟩ := finE_ok h
   exact .nil hl ⟨e1, e3⟩
  ·cases h
 | .mark hh :: r, H, n, h => by
  unfold leaveC at h
  split at h
  ·rename_i hl
   exact .mark hl (leaveC_ok hE h)
  ·cases h
 | .call g vs :: r, H, n, h => by
  unfold leaveC at h
  split at h
  ·cases h
  ·rename_i acc hacc
   have hmem := reach_mem (by simp) hacc
   split at h
   ·cases h
   ·rename_i v post n' hc
    rw [appK_eq] at h
    exact .call (hE.d hc) (sub_filter hmem _) (sub_filter hmem _) (leaveC_ok hE h)
theorem LeaveQ.mono {P : Program} {T : Tab} {rs : List ResultVar} {fr : Fr} {K K' : AV → Heap → Nat → Prop} {df : List Df} {H : Heap} {n : Nat} (h : LeaveQ P T rs fr K df H n) (hk : ∀ v H n, K v H n → K' v H n) : LeaveQ P T rs fr K' df H n := by
 induction h with
 | nil hl h => exact .nil hl (hk _ _ _ h)
 | mark hl _ ih => exact .mark hl ih
 | call hc hR hp _ ih => exact .call hc hR hp ih
def leaveK (E : Hs) (T : Tab) (rs : List ResultVar) (n0 : Nat) (pre : Heap) (s : St) : Got (AV × Heap × Nat) :=
 match s with
 | ⟨fr, H, n, _, df, _, _⟩ => match df with
  | [] => match resL T fr H rs with
   | some l => forceQ (outV l) fun v => finE n0 pre v H n
   | none => .no .bad
  | d :: df => leaveC E T rs n0 pre fr (d :: df) H n
theorem leaveK_eq (E : Hs) (T : Tab) (rs : List ResultVar) (n0 : Nat) (pre : Heap) (s : St) : leaveK E T rs n0 pre s = leaveC E T rs n0 pre s.fr s.df s.H s.n := by
 obtain ⟨fr, H, n, sz, df, log, b⟩ := s
 cases df with
 | nil => simp only [leaveC]; rfl
 | cons d df => rfl
def retC (E : Hs) (T : Tab) (rs : List ResultVar) (n0 : Nat) (pre : Heap) (e : Exit) (s : St) : Got (AV × Heap × Nat) :=
 match e with
 | .normal => leaveK E T rs n0 pre s
 | .ret => leaveK E T rs n0 pre s
 | _ => .no .bad
def evC (T : Tab) (fns : FuncId → Option FRow) (pu : Pure) (E : Hs) : CallH := fun g vs pre R n =>
 match fns g with
 | none => .no (.noFn g)
 | some ⟨nt, rs, c⟩ => appK pre R fun H => match okL n vs && (okH n H && (roB R && Nat.ble (lenR vs) nt)) with
  | false => .no (.entry vs H)
  | true => outE n pre (frZ 0 vs fun fr => vcCodeQ (Get T E pu none _) T c (retC E T rs n pre) ⟨fr, H, n, nt, [], [], n⟩)
def evD (T : Tab) (fns : FuncId → Option FRow) (pu : Pure) (E : Hs) : CallH := fun g vs pre R n =>
 match fns g with
 | none => .no (.noFn g)
 | some ⟨nt, rs, c⟩ => appK pre R fun H => match okL n vs && (okH n H && (roB R && Nat.ble (lenR vs) nt)) with
  | false => .no (.entry vs H)
  | true => outE n pre (frZ 0 vs fun fr => vcCodeQ (Get T E pu none _) T c (retQ (base _) T rs (finE n pre)) ⟨fr, H, n, nt, [], [], n⟩)
theorem outE_ok {n : Nat} {pre : Heap} {r : Got (AV × Heap × Nat)} {v : AV} {post : Heap} {n' : Nat} (h : outE n pre r = .ok (v, post, n')) : r = .ok (v, post, n') ∧ n ≤ n' ∧ domB pre post = true ∧ okH n' post = true ∧ okA n' v = true := by
 unfold outE at h
 split at h
 ·cases h
 ·rename_i v1 post1 n1
  split at h
  ·rename_i hc
   simp only [Got.ok.injEq, Prod.mk.injEq] at h
   obtain ⟨rfl, rfl, rfl⟩ := h
   simp only [Bool.and_eq_true] at hc
   obtain ⟨c1, c2, c3, c4⟩ := hc
   exact ⟨rfl, Nat.le_of_ble_eq_true c1, domM_ok c2, c3, c4⟩
  ·cases h
theorem evC_ok {P : Program} {T : Tab} (hT : TabOK P T) (hm : P.follows .mixedOrders = true) {fns : FuncId → Option FRow} (hf : ∀ {g r}, fns g = some r → FunOK P g r) {pu : Pure} (hp : PureOK P pu) {E : Hs} (hE : HsOK P E) : CallOK P (evC T fns pu E) := by
 intro g vs pre R n v post n' h
 unfold evC at h
 split at h
 ·cases h
 ·rename_i nt rs c hfn
  rw [appK_eq] at h
  split at h
  ·cases h
  ·rename_i hb
   simp only [Bool.and_eq_true] at hb
   obtain ⟨b1, b2, b3, b4⟩ := hb
   obtain ⟨fn, f1, f2, f3, f4, f5, f6⟩ := hf hfn
   simp only at f2 f3 f4 f6
   obtain ⟨hr, c1, c2, c3, c4⟩ := outE_ok h
   rw [frZ_eq, getQ] at hr
   have hsem := vcCode_sound' hT hm (getOK hT hm hE hp (rh := none) (v, post, n') 4) c hr f6
   refine Ctr.intro_gen hT f1 f4 (by rw [f6, f5, Nat.ble_eq_true_of_le c1]; rfl) (by rw [f2]; exact (lenR_eq vs ▸ b4)) b1 b2 (by rw [b3, c2]; rfl) ?_
   rw [f2, f3]
   refine hsem.mono ?_
   have fin : ∀ s : St, leaveC E T rs n pre s.fr s.df s.H s.n = .ok (v, post, n') → LeaveQ P T rs s.fr (fun v1 H _ => Fin n n' v post v1 H) s.df s.H s.n := by
    intro s hq
    refine (leaveC_ok hE hq).mono ?_
    rintro v1 H _ ⟨rfl, e3⟩
    exact Fin.same c3 c4 e3
   intro e s hq
   cases e with
   | normal => exact fin s ((leaveK_eq ..).symm.trans hq)
   | ret => exact fin s ((leaveK_eq ..).symm.trans hq)
   | _ => unfold retC at hq; cases hq
theorem evD_ok {P : Program} {T : Tab} (hT : TabOK P T) (hm : P.follows .mixedOrders = true) {fns : FuncId → Option FRow} (hf : ∀ {g r}, fns g = some r → FunOK P g r) {pu : Pure} (hp : PureOK P pu) {E : Hs} (hE : HsOK P E) : DefOK P (evD T fns pu E) := by
 intro g vs pre R n v post n' h
 unfold evD at h
 split at h
 ·cases h
 ·rename_i nt rs c hfn
  rw [appK_eq] at h
  split at h
  ·cases h
  ·rename_i hb
   simp only [Bool.and_eq_true] at hb
   obtain ⟨b1, b2, b3, b4⟩ := hb
   obtain ⟨fn, f1, f2, f3, f4, f5, f6⟩ := hf hfn
   simp only at f2 f3 f4 f6
   obtain ⟨hr, c1, c2, c3, c4⟩ := outE_ok h
   rw [frZ_eq, getQ] at hr
   have hsem := vcCode_sound' hT hm (getOK hT hm hE hp (rh := none) (v, post, n') 4) c hr f6
   refine CtrD.intro_sem hT f1 f4 (by rw [f6, f5, Nat.ble_eq_true_of_le c1]; rfl) (by rw [f2]; exact (lenR_eq vs ▸ b4)) b1 b2 (by rw [b3, c2]; rfl) ?_
   rw [f2, f3]
   refine hsem.mono ?_
   have fin : ∀ s, endQ (base (AV × Heap × Nat)) T rs (finE n pre) s = .ok (v, post, n') → endQ (Ask P) T rs (fun v1 H _ => Fin n n' v post v1 H) s := by
    intro s hq
    obtain ⟨fr, H, n2, sz, df, log, b⟩ := s
    cases df with
    | cons d df => unfold endQ at hq; cases hq
    | nil =>
     unfold endQ at hq ⊢
     simp only at hq ⊢
     split at hq
     ·rename_i l hl
      rw [force_eq] at hq ⊢
      obtain ⟨e1, e2, e3⟩ := finE_ok hq
      rw [e1]
      exact Fin.same c3 c4 e3
     ·cases hq
   intro e s hq
   cases e with
   | normal => exact fin s hq
   | ret => exact fin s hq
   | _ => unfold retQ at hq; cases hq
def zipF : List Nat → List AV → Fr → Fr
 | t :: ts, v :: vs, fr => zipF ts vs ((t, v) :: fr)
 | _, _, fr => fr
def roundB (h n0 : Nat) (pre : Heap) (e : Exit) (s : St) : Got (AV × Heap × Nat) :=
 match s.df, look s.H h with
 | [], some (.loop L) => match e with
  | .normal => finE n0 pre (.bool true) ((h, .loop { L with st := .ready, pend := none }) :: s.H) s.n
  | .ret => finE n0 pre (.bool false) ((h, .loop { L with st := .done, pend := some .ret }) :: s.H) s.n
  | .exit i => finE n0 pre (.bool false) ((h, .loop { L with st := .done, pend := some (.exit i) }) :: s.H) s.n
  | .goto i => finE n0 pre (.bool false) ((h, .loop { L with st := .done, pend := some (.goto i) }) :: s.H) s.n
  | _ => .no .bad
 | _, _ => .no .bad
def roundA (T : Tab) (E : Hs) (pu : Pure) (h : Nat) (body : Code) (n0 : Nat) (pre : Heap) (e : Exit) (s : St) : Got (AV × Heap × Nat) :=
 match e, s with
 | .normal, ⟨fr, H, n, sz, df, _, b⟩ => match look H h with
  | some (.loop L) => match L.st with
   | .ready => vcCodeQ (Get T E pu (some h) _) T body (roundB h n0 pre) ⟨fr, (h, .loop { L with st := .busy }) :: H, n, sz, df, [], b⟩
   | _ => .no .bad
  | _ => .no .bad
 | _, _ => .no .bad
def evR (T : Tab) (pu : Pure) (E : Hs) : Nat → List AV → Heap → Heap → Nat → Got (AV × Heap × Nat) := fun h us pre R n =>
 match okL n us && (Nat.blt h n && (okH n (pre ++ R) && roB R)) with
 | false => .no (.entry us (pre ++ R))
 | true => match look (pre ++ R) h with
  | some (.loop L) => match Nat.beq L.ps.size us.length && (okF n (zipF L.ps.toList us L.fr) && L.ps.toList.all fun t => Nat.blt t L.sz) with
   | true => outE n pre (spine (zipF L.ps.toList us L.fr) fun fr => spine (pre ++ R) fun H => vcCodeQ (Get T E pu (some h) _) T L.as (roundA T E pu h L.body n pre) ⟨fr, H, n, L.sz, [], [], n⟩)
   | false => .no .bad
  | _ => .no .bad
theorem zip_frame {env : Env} {sz : Nat} : ∀ {ps : List Nat} {us : List AV} {xs : List Value} {fr : Fr} {tmps : Array Value}, us.length = ps.length → Dens env us xs → tmps.size = sz → (∀ t v, look fr t = some v → ∃ x, tmps[t]? = some x ∧ Den env v x) →
  ((ps.zip xs).foldl (fun tmps (p : Nat × Value) => tmps.setIfInBounds p.1 p.2) tmps).size = sz ∧
   ((∀ t ∈ ps, t < sz) → ∀ t v, look (zipF ps us fr) t = some v → ∃ x, ((ps.zip xs).foldl (fun tmps (p : Nat × Value) => tmps.setIfInBounds p.1 p.2) tmps)[t]? = some x ∧ Den env v x)
 | [], us, xs, fr, tmps, hl, hd, hsz, hf => by
  have : us = [] := List.length_eq_zero_iff.1 hl
  subst this
  simpa [zipF] using ⟨hsz, fun t v => hf t v⟩
 | p :: ps, [], xs, fr, tmps, hl, _, _, _ => by simp at hl
 | p :: ps, u :: us, xs, fr, tmps, hl, hd, hsz, hf => by
  simp only [Dens] at hd
  obtain ⟨x, xs', rfl, h1, h2⟩ := hd
  simp only [List.zip_cons_cons, List.foldl_cons, zipF]
  by_cases hp : p < sz
  ·obtain ⟨r1, r2⟩ := zip_frame (ps := ps) (us := us) (xs := xs') (fr := (p, u) :: fr) (tmps := tmps.setIfInBounds p x) (by simpa using hl) h2 (by simpa using hsz) (by
    intro t v hv
    rw [look_cons] at hv
    split at hv
    ·rename_i e; subst e; cases hv
     exact ⟨x, by simp [hsz, hp], h1⟩
    ·rename_i hne
     obtain ⟨y, q1, q2⟩ := hf t v hv
     exact ⟨y, by simpa [Array.getElem?_setIfInBounds_ne hne] using q1, q2⟩)
   exact ⟨r1, fun hall => r2 (fun t ht => hall t (List.mem_cons_of_mem _ ht))⟩
  ·obtain ⟨r1, r2⟩ := zip_frame (env := env) (sz := sz) (ps := ps) (us := us) (xs := xs') (fr := []) (tmps := tmps.setIfInBounds p x) (by simpa using hl) h2 (by simpa using hsz) (by intro t v hv; simp [lookN] at hv)
   exact ⟨r1, fun hall => absurd (hall p List.mem_cons_self) hp⟩
theorem loop_put {env : Env} {F : Foot} {w : World} {h l n : Nat} {L L' : LoopR} {rec' : Loop} {R : Heap} (hl : env h = some (.pointer (some ⟨l, 0, none⟩))) (hF : ∀ k, F h k ↔ k = l) (hlt : l < w.heap.size) (hsat : LoopSat env L' rec') :
  Turn n n R [(h, Res.loop L)] [(h, Res.loop L')] env F w env (fun _ b => b = l) (w.putObj l (.loop rec')) := by
 refine ⟨Env.le.refl _, fun _ _ => rfl, ⟨?_, ?_⟩, ?_, ⟨rfl, rfl, rfl, by simp, ?_⟩⟩
 ·intro k r0 hk
  obtain ⟨rfl, rfl⟩ := look_one hk
  exact ⟨_, hl, l, rec', rfl, fun _ => Iff.rfl, World.putObj_heap_same hlt, hsat⟩
 ·intro k r0 k' r1 hk hk' hne
  obtain ⟨rfl, rfl⟩ := look_one hk
  obtain ⟨rfl, rfl⟩ := look_one hk'
  exact absurd rfl hne
 ·intro k r0 x hk hx
  obtain ⟨rfl, rfl⟩ := look_one hk
  exact .inl ⟨k, .loop L, by simp [lookC, Nat.beq_refl], (hF x).2 hx, fun _ => rfl⟩
 ·intro k _ hk
  exact World.putObj_heap_other (fun e' => hk ⟨h, .loop L, by simp [lookC, Nat.beq_refl], rfl, (hF k).2 e'⟩)
theorem loop_of {env : Env} {H : Heap} {F : Foot} {w : World} {h l : Nat} {L : LoopR} (hs : SatH env H F w) (hL : look H h = some (.loop L)) (hl : env h = some (.pointer (some ⟨l, 0, none⟩))) :
  ∃ rec, (∀ k, F h k ↔ k = l) ∧ w.heap[l]? = some (.loop rec) ∧ LoopSat env L rec := by
 obtain ⟨v1, hv1, b1, rec, e1, e2, e3, e4⟩ := hs.sat hL
 rw [hl] at hv1; cases hv1
 simp only [Value.pointer.injEq, Option.some.injEq, Addr.mk.injEq, and_true] at e1
 subst e1
 exact ⟨rec, e2, e3, e4⟩
theorem evR_ok {P : Program} {T : Tab} (hT : TabOK P T) (hm : P.follows .mixedOrders = true) {pu : Pure} (hp : PureOK P pu) {E : Hs} (hE : HsOK P E) : RoundOK P (evR T pu E) := by
 intro h us pre R n v post n' hev
 unfold evR at hev
 split at hev
 ·cases hev
 ·rename_i hb
  simp only [Bool.and_eq_true, Nat.blt_eq] at hb
  obtain ⟨b1, b2, b3, b4⟩ := hb
  split at hev
  ·rename_i L hL
   split at hev
   ·rename_i hb
    simp only [Bool.and_eq_true] at hb
    obtain ⟨d1, d2, d3⟩ := hb
    have d1 := Nat.eq_of_beq_eq_true d1
    obtain ⟨hr, c1, c2, c3, c4⟩ := outE_ok hev
    rw [spine_eq, spine_eq, getQ] at hr
    refine ⟨c1, c2, ⟨L, hL, d1⟩, ?_⟩
    intro env F w xs l rec hd hl hrec hs hfresh
    obtain ⟨rec', e2, e3, e4⟩ := loop_of hs hL hl
    rw [hrec] at e3; cases e3
    have hsem := vcCode_sound' hT hm (getOK hT hm hE hp (rh := some h) (v, post, n') 4) L.as hr e4.stat.1
    have htm : ((rec.params.zip xs).foldl (fun tmps (t, a) => tmps.setIfInBounds t a) rec.tmps) = ((L.ps.toList.zip xs.toList).foldl (fun tmps (p : Nat × Value) => tmps.setIfInBounds p.1 p.2) rec.tmps) := by
     rw [e4.ps, ← Array.foldl_toList, Array.toList_zip]
    obtain ⟨z1, z2⟩ := zip_frame (env := env) (sz := L.sz) (ps := L.ps.toList) (us := us) (xs := xs.toList) (fr := L.fr) (tmps := rec.tmps) (by simp [d1]) hd e4.sz e4.fr
    have z2 := z2 (fun t ht => by simpa using List.all_eq_true.1 d3 t ht)
    rw [htm, e4.as, e4.body]
    refine roundIn_of_wpIn trivial ?_
    refine body_sem (args := []) (rh := some h) (ro := some l) d2 b3 b4 hsem ⟨b2, hl⟩ z1 rfl z2 hs ?_
    intro envI e s1 env1 F1 a1 w1 hI hQ k1 k2 k3 k4 k5 k6
    have hlI : envI h = some (.pointer (some ⟨l, 0, none⟩)) := by rw [hI h b2]; exact hl
    obtain ⟨fr1, H1, n1, sz1, df1, log1, b1'⟩ := s1
    simp only at k1 k2 k3
    subst k1; subst k2
    cases e with
    | normal =>
     unfold roundA at hQ
     simp only at hQ
     split at hQ
     ·rename_i L1 hL1
      split at hQ
      ·rename_i hst1
       obtain ⟨rec1, f2, f3, f4⟩ := loop_of (l := l) k5.heap hL1 (by rw [k4 h b2]; exact hlI)
       have hl1 : env1 h = some (.pointer (some ⟨l, 0, none⟩)) := by rw [k4 h b2]; exact hlI
       have t1 := loop_put (n := n1) (R := []) (L := L1) (L' := { L1 with st := .busy }) (rec' := { rec1 with state := .busy }) hl1 f2 (getElem?_lt f3) ⟨f4.sz, f4.ps, f4.as, f4.body, rfl, f4.pend, f4.dh, f4.fr, f4.stat⟩
       obtain ⟨F2, q1, q2⟩ := turn_step t1 k5.heap k6 sub_nil (sub_one hL1) dom_self
       refine ⟨_, run_beginRound f3 (by rw [f4.st]; exact hst1), ?_⟩
       rw [getQ] at hQ
       have hsem2 := vcCode_sound' hT hm (getOK hT hm hE hp (rh := some h) (v, post, n') 4) L.body hQ e4.stat.2
       refine hsem2 _ _ w envI (some l) _ env1 F2 a1 _ ⟨b2, hlI⟩ k3 k4 ⟨k5.size, k5.defers, k5.val, q1, k5.fresh⟩ q2 ?_
       intro e s2 env2 F3 a2 w2 hB m1 m2 m3 m4 m5 m6
       obtain ⟨fr2, H2, n2, sz2, df2, log2, b2'⟩ := s2
       simp only at m1 m2 m3
       subst m1; subst m2
       have hl2 : env2 h = some (.pointer (some ⟨l, 0, none⟩)) := by rw [m4 h b2]; exact hlI
       unfold roundB at hB
       simp only at hB
       split at hB
       ·rename_i L2 hL2
        obtain ⟨rec2, g2, g3, g4⟩ := loop_of (l := l) m5.heap hL2 hl2
        have fin : ∀ (jump : Option Code) (L' : LoopR), L' = { L2 with st := if jump.isNone then .ready else .done, pend := jump } → finE b2' pre (.bool jump.isNone) ((h, .loop L') :: H2) n2 = .ok (v, post, n') →
          ∃ v w', (Instr.endRound l jump).run P w2 = .ok v w' ∧ ∃ env' F' x, Ending.returned v = .returned x ∧ Turn b2' n' R pre post env F w env' F' w' ∧ Den env' (AV.bool jump.isNone) x := by
         intro jump L' hL' hfin
         subst hL'
         have t2 := loop_put (n := n2) (R := []) (L := L2) (L' := { L2 with st := if jump.isNone then .ready else .done, pend := jump }) (rec' := { rec2 with state := if jump.isNone then .ready else .done, pending := jump }) hl2 g2 (getElem?_lt g3)
          ⟨g4.sz, g4.ps, g4.as, g4.body, rfl, rfl, g4.dh, g4.fr, g4.stat⟩
         obtain ⟨F4, p1, p2⟩ := turn_step t2 m5.heap m6 sub_nil (sub_one hL2) dom_self
         refine ⟨_, _, run_endRound jump g3, ?_⟩
         obtain ⟨e1, e2, e3⟩ := finE_ok hfin
         have hF : Fin b2' n' (.bool jump.isNone) post (.bool jump.isNone) ((h, .loop { L2 with st := if jump.isNone then .ready else .done, pend := jump }) :: H2) := Fin.same c3 rfl e3
         obtain ⟨env3, F5, r1, r2⟩ := fin_turn (x := .bool jump.isNone) hF hI hfresh c1 (fun k hk => m4 k hk) p1 p2 (by simp only [Den])
         exact ⟨env3, F5, _, rfl, r1, r2⟩
        have eqv : ∀ {bb : Bool} {H : Heap}, finE b2' pre (.bool bb) H n2 = .ok (v, post, n') → v = .bool bb := fun hh => (finE_ok hh).1.symm
        cases e with
        | normal => obtain rfl := eqv hB; exact fin none _ rfl hB
        | ret => obtain rfl := eqv hB; exact fin (some .ret) _ rfl hB
        | exit i => obtain rfl := eqv hB; exact fin (some (.exit i)) _ rfl hB
        | goto i => obtain rfl := eqv hB; exact fin (some (.goto i)) _ rfl hB
        | panic c => cases hB
        | outgrown => cases hB
       ·cases hB
      ·cases hQ
     ·cases hQ
    | _ => unfold roundA at hQ; cases hQ
   ·cases hev
  ·cases hev
abbrev Ov := FuncId → List AV → Heap → Heap → Nat → Option (AV × Heap × Nat)
def OvOK (P : Program) (ov : Ov) : Prop := ∀ {g vs pre R n v post n'}, ov g vs pre R n = some (v, post, n') → Ctr P g vs R pre n n' v post
def noOv : Ov := fun _ _ _ _ _ => none
theorem noOv_ok (P : Program) : OvOK P noOv := fun h => by cases h
def evO (ov : Ov) (C : CallH) : CallH := fun g vs pre R n =>
 match ov g vs pre R n with
 | some r => .ok r
 | none => C g vs pre R n
theorem evO_ok {P : Program} {ov : Ov} (h : OvOK P ov) {C : CallH} (hC : CallOK P C) : CallOK P (evO ov C) := by
 intro g vs pre R n v post n' he
 unfold evO at he
 split at he
 ·rename_i r hr
  cases he
  exact h hr
 ·exact hC he
def noHs : Hs := ⟨fun _ _ _ _ _ => .no .fuel, fun _ _ _ _ _ => .no .fuel, fun _ _ _ _ _ => .no .fuel⟩
def evAll (T : Tab) (fns : FuncId → Option FRow) (pu : Pure) (ov : Ov) (k : Nat) : Hs := Nat.rec (motive := fun _ => Hs) noHs (fun _ E => ⟨evO ov (evC T fns pu E), evD T fns pu E, evR T pu E⟩) k
theorem evAll_ok {P : Program} {T : Tab} (hT : TabOK P T) (hm : P.follows .mixedOrders = true) {fns : FuncId → Option FRow} (hf : ∀ {g r}, fns g = some r → FunOK P g r) {pu : Pure} (hp : PureOK P pu) {ov : Ov} (ho : OvOK P ov) : ∀ k, HsOK P (evAll T fns pu ov k)
 | 0 => ⟨fun h => (by cases h), fun h => (by cases h), fun h => (by cases h)⟩
 | k + 1 => ⟨evO_ok ho (evC_ok hT hm hf hp (evAll_ok hT hm hf hp ho k)), evD_ok hT hm hf hp (evAll_ok hT hm hf hp ho k), evR_ok hT hm hp (evAll_ok hT hm hf hp ho k)⟩
def evFn (T : Tab) (fns : FuncId → Option FRow) (pu : Pure) (ov : Ov) (k : Nat) : CallH := (evAll T fns pu ov k).c
theorem evFn_ok {P : Program} {T : Tab} (hT : TabOK P T) (hm : P.follows .mixedOrders = true) {fns : FuncId → Option FRow} (hf : ∀ {g r}, fns g = some r → FunOK P g r) {pu : Pure} (hp : PureOK P pu) {ov : Ov} (ho : OvOK P ov) (k : Nat) : CallOK P (evFn T fns pu ov k) := (evAll_ok hT hm hf hp ho k).c
end
end Go.SX
-- SQUEEZED
