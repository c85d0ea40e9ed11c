/- SX, part RF: ranges over functions in the asking walk. -/
import Derived.Test.YtglkoaajgekonaaGreatDoorSXS
namespace Go.SX
noncomputable section
def firstRange : Code → Option (Array Tmp × Code × Code)
 | .rangeFunc _ ps as b => some (ps, as, b)
 | .seq a b => match firstRange a with
  | some r => some r
  | none => firstRange b
 | .cond _ a b => match firstRange a with
  | some r => some r
  | none => firstRange b
 | .block _ c => firstRange c
 | .loop c => firstRange c
 | .scope c => firstRange c
 | _ => none
def recOf (fn : Func) (fr : Fr) (dh : Nat) : LoopR := match fn.body.bind firstRange with
 | some (ps, as, b) => ⟨fr, fn.ntmps, ps, as, b, .ready, none, dh⟩
 | none => ⟨fr, fn.ntmps, #[], .skip, .skip, .ready, none, dh⟩
def afterA (lh : Nat) (Q : Exit → St → Prop) (fr : Fr) (H : Heap) (n sz : Nat) (df : List Df) (b : Nat) : Prop :=
 match look H lh with
 | some (.loop L) => match L.st, L.pend with
  | .busy, _ => False
  | _, none => Q .normal ⟨fr, (lh, .gone) :: H, n, sz, df, [], b⟩
  | _, some .ret => Q .ret ⟨fr, (lh, .gone) :: H, n, sz, df, [], b⟩
  | _, some (.exit i) => Q (.exit i) ⟨fr, (lh, .gone) :: H, n, sz, df, [], b⟩
  | _, some (.goto i) => Q (.goto i) ⟨fr, (lh, .gone) :: H, n, sz, df, [], b⟩
  | _, some _ => False
 | _ => False
theorem afterA_ok {P : Program} {rh ro : Option Nat} {lh : Nat} {Q : Exit → St → Prop} {fr : Fr} {H : Heap} {n sz : Nat} {df : List Df} {b : Nat} (h : afterA lh Q fr H n sz df b) {X Y : Nat → Prop} {w0 : World} {env0 env : Env}
  {Qc : Exit → Act → World → Prop} {F : Foot} {a : Act} {w : World} {l : Nat} (hro : RoAt env0 b rh ro) (hb : b ≤ n) (hbase : ∀ k, k < b → env k = env0 k) (hl : env lh = some (.pointer (some ⟨l, 0, none⟩))) (hs : SatS env ⟨fr, H, n, sz, df, [], b⟩ F a w) (hsi : Since X Y w0 H F w)
  (hq : ∀ e s' env' F' a' w', Q e s' → s'.b = b → s'.sz = sz → s'.b ≤ s'.n → (∀ k, k < s'.b → env' k = env0 k) → SatS env' s' F' a' w' → Since X Y w0 s'.H F' w' → Qc e a' w') :
  ∃ jump w₄, (Instr.endLoop l).run P w = .ok jump w₄ ∧ (match jump with | none => Qc .normal a w₄ | some c => c.wpIn (Wd ro) 0 P Qc a w₄) := by
 have _ := hro
 unfold afterA at h
 split at h
 ·rename_i L hL
  obtain ⟨v1, hv1, b1, rec, e1, e2, e3, e4⟩ := hs.heap.sat hL
  rw [hl] at hv1; cases hv1
  simp only [Value.pointer.injEq, Option.some.injEq, Addr.mk.injEq, and_true] at e1
  subst e1
  have ht : Turn n n [] [(lh, Res.loop L)] [(lh, Res.gone)] env F w env (fun _ _ => False) (w.putObj l (.loop { rec with state := .exhausted })) := by
   refine ⟨Env.le.refl _, fun _ _ => rfl, ⟨?_, ?_⟩, ?_, ⟨rfl, rfl, rfl, by simp, ?_⟩⟩
   ·intro k r0 hk
    obtain ⟨rfl, rfl⟩ := look_one hk
    exact ⟨_, hl, fun _ h => h⟩
   ·intro k r0 k' r1 hk hk' hne
    obtain ⟨rfl, rfl⟩ := look_one hk
    obtain ⟨rfl, rfl⟩ := look_one hk'
    exact absurd rfl hne
   ·intro k r0 x _ hx; exact hx.elim
   ·intro k _ hk
    exact World.putObj_heap_other (fun e' => hk ⟨lh, .loop L, by simp [lookC, Nat.beq_refl], rfl, (e2 k).2 e'⟩)
  obtain ⟨F'', q1, q2⟩ := turn_step ht hs.heap hsi sub_nil (sub_one hL) dom_self
  have hS : SatS env ⟨fr, (lh, .gone) :: H, n, sz, df, [], b⟩ F'' a (w.putObj l (.loop { rec with state := .exhausted })) := ⟨hs.size, hs.defers, hs.val, q1, hs.fresh⟩
  have go : ∀ {e : Exit}, Q e ⟨fr, (lh, .gone) :: H, n, sz, df, [], b⟩ → Qc e a (w.putObj l (.loop { rec with state := .exhausted })) := fun hQ => hq _ _ _ _ _ _ hQ rfl rfl hb hbase hS q2
  have hrun : L.st ≠ .busy → (Instr.endLoop l).run P w = .ok rec.pending (w.putObj l (.loop { rec with state := .exhausted })) := fun hb => run_endLoop e3 (by rw [e4.st]; exact hb)
  clear q1 q2 hS ht
  generalize w.putObj l (.loop { rec with state := .exhausted }) = W4 at go hrun
  rw [e4.pend] at hrun
  split at h
  ·exact h.elim
  ·rename_i hpd hnb
   exact ⟨_, _, hrun hnb, by rw [hpd]; exact go h⟩
  ·rename_i hpd hnb
   exact ⟨_, _, hrun hnb, by rw [hpd]; exact wpIn_ret (go h)⟩
  ·rename_i hpd hnb
   exact ⟨_, _, hrun hnb, by rw [hpd]; exact wpIn_exit (go h)⟩
  ·rename_i hpd hnb
   exact ⟨_, _, hrun hnb, by rw [hpd]; exact wpIn_goto (go h)⟩
  ·exact h.elim
 ·exact h.elim
theorem rangeC_okA {P : Program} {rh ro : Option Nat} {g : FuncId} {vs : List AV} {lh : Nat} {Q : Exit → St → Prop} {fr : Fr} {H R pre post : Heap} {n n' sz : Nat} {v : AV} {df : List Df} {b : Nat}
  (hspec : Ctr P g vs R pre n n' v post) (hR : Sub R H) (hp : Sub pre H) (h : afterA lh Q fr (post ++ H) n' sz df b) {X Y : Nat → Prop} {w0 : World} {env0 env : Env} {Qc : Exit → Act → World → Prop} {F : Foot} {a : Act} {w : World} {l : Nat} {xs : Array Value} (hro : RoAt env0 b rh ro) (hb : b ≤ n) (hbase : ∀ k, k < b → env k = env0 k)
  (hl : env lh = some (.pointer (some ⟨l, 0, none⟩))) (hv : Dens env vs xs.toList) (hs : SatS env ⟨fr, H, n, sz, df, [], b⟩ F a w) (hsi : Since X Y w0 H F w)
  (hq : ∀ e s' env' F' a' w', Q e s' → s'.b = b → s'.sz = sz → s'.b ≤ s'.n → (∀ k, k < s'.b → env' k = env0 k) → SatS env' s' F' a' w' → Since X Y w0 s'.H F' w' → Qc e a' w') :
  HasBody P g = true ∧ Calls P g xs w fun e w₃ => rangePost (Wd ro) 0 P l Qc a e w₃ := by
 obtain ⟨hbody, hnn, hdom, spec⟩ := hspec
 refine ⟨hbody, ?_⟩
 have hpart : SatH env (pre ++ R) F w := hs.heap.part (fun k r hk => sub_append hp hR k r hk)
 refine (spec env F w xs hv hpart (fun k hk _ => hs.fresh k hk)).mono ?_
 rintro e w' ⟨env', F', y, rfl, t, hy⟩
 obtain ⟨F'', q1, q2⟩ := turn_step t hs.heap hsi hR hp (domB_ok hdom)
 have hS : SatS env' ⟨fr, post ++ H, n', sz, df, [], b⟩ F'' a w' := by
  refine ⟨hs.size, hs.defers.mono t.le, fun t' v hv => ?_, q1, ?_⟩
  ·obtain ⟨x, h1, h2⟩ := hs.val t' v hv
   exact ⟨x, h1, Den.mono t.le v h2⟩
  ·intro k hk
   simp only at hk
   rw [t.only k (by omega)]; exact hs.fresh k (by simp only; omega)
 exact afterA_ok h hro (by omega) (fun k hk => by rw [t.only k (by omega)]; exact hbase k hk) (t.le _ _ hl) hS q2 hq
theorem rangeA {P : Program} {f : Operand} {ps : Array Tmp} {as body : Code} {Q : Exit → St → Prop} {fr fr0 : Fr} {H R pre post : Heap} {n n' sz : Nat} {v : AV} {df : List Df} {log : List (List Nat × List Nat)} {b : Nat} {g : FuncId} {first cap : List AV}
  (hf : ev fr f = some (.fn (.func g) first cap)) (h0 : ∀ t v, look fr0 t = some v → look fr t = some v)
  (spec : Ctr P g (first ++ (.yld (n + 1) :: cap)) R pre (n + 2) n' v post)
  (hR : Sub R ((n + 1, .loop ⟨fr0, sz, ps, as, body, .ready, none, n⟩) :: (n, .dblk) :: H)) (hp : Sub pre ((n + 1, .loop ⟨fr0, sz, ps, as, body, .ready, none, n⟩) :: (n, .dblk) :: H))
  (hA : afterA (n + 1) Q fr (post ++ ((n + 1, .loop ⟨fr0, sz, ps, as, body, .ready, none, n⟩) :: (n, .dblk) :: H)) n' sz (.mark n :: df) b) :
  AtRange P none f ps as body Q ⟨fr, H, n, sz, df, log, b⟩ := by
 refine ⟨fun hst1 hst2 => ?_⟩
 intro X Y w0 env0 ro Qc env F a w hro hb hbase hs hsi hq
 simp only at hb hbase hro
 ·have hfd : Den env (.fn (.func g) first cap) (a.eval f) :=
   ev_den (o := { dst := none, op := .move f, type := 0, pos := "", after := #[], guard := none }) (fr := fr) (fun t _ v hv => hs.val t v hv) (by simp [Op.operands]) hf
  simp only [Den] at hfd
  obtain ⟨xs, ys, hx, d3, d4⟩ := hfd
  refine wpIn_rangeFunc ?_
  intro fn _
  have call : ∀ {env1 : Env} {F1 : Foot} {w1 : World} {lh l nn : Nat} {H1 : Heap} {df1 : List Df} {mark : List Deferred}, env.le env1 → Ctr P g (first ++ (.yld lh :: cap)) R pre nn n' v post → Sub R H1 → Sub pre H1 → afterA lh Q fr (post ++ H1) n' sz df1 b → b ≤ nn → (∀ k, k < b → env1 k = env0 k) →
    env1 lh = some (.pointer (some ⟨l, 0, none⟩)) → SatS env1 ⟨fr, H1, nn, sz, df1, [], b⟩ F1 { a with defers := mark ++ a.defers } w1 → Since X Y w0 H1 F1 w1 → (Instr.enterLoop fn a.tmps ps as body (Wd ro).round).run P w = .ok (l, mark) w1 →
    ∃ (l : Nat) (mark : List Deferred) (w₁ : World) (d : Deferred) (w₁' : World) (f' : FuncId) (args : Array Value) (w₂ : World),
     (Instr.enterLoop fn a.tmps ps as body (Wd ro).round).run P w = .ok (l, mark) w₁ ∧ (resolve a.eval (rangeCall f l) 0).run P w₁ = .ok d w₁' ∧ (∀ f'', Target.leads P w₁' d.target d.args = some f'' → (Wd ro).fn f'') ∧
     (invoke d.target d.args).run P w₁' = .ok (.enter f' args) w₂ ∧ ((Wd ro).depth.isSome = true → 1 ≤ 0) ∧ CallsIn (Wd ro) (0 - 1) P f' args w₂ (rangePost (Wd ro) 0 P l Qc { a with defers := mark ++ a.defers }) := by
   intro env1 F1 w1 lh l nn H1 df1 mark hle hC hC2 hC3 hC4 hb1 hbase1 hl hS hsi1 hent
   have hdens : Dens env1 (first ++ (.yld lh :: cap)) (xs ++ #[Value.func (.yield l) #[] #[]] ++ ys).toList := by
    have e1 := Dens.mono hle first d3
    have e2 : Dens env1 (.yld lh :: cap) (Value.func (.yield l) #[] #[] :: ys.toList) := by
     simp only [Dens]
     exact ⟨_, _, rfl, by simp only [Den]; exact ⟨l, hl, rfl⟩, Dens.mono hle cap d4⟩
    have := e1.append e2
    simpa using this
   obtain ⟨hbody, hcalls⟩ := rangeC_okA (rh := none) (ro := ro) hC hC2 hC3 hC4 hro hb1 hbase1 hl hdens hS hsi1 hq
   refine ⟨l, mark, w1, { target := .fn (.func g) ys, args := xs ++ #[Value.func (.yield l) #[] #[]] }, w1, g, xs ++ #[Value.func (.yield l) #[] #[]] ++ ys, w1, hent, ?_, fun _ _ => trivial, ?_, wd_depth ro, callsIn_wd.2 hcalls⟩
   ·simp only [resolve, hx]
    simp [Deferred.ofValue, Act.eval]
   ·simp only [invoke]; exact hasBody_run hbody _ _
  have recd : ∀ {env1 : Env} {r : Loop} {dh D : Nat}, env.le env1 → env1 dh = some (.pointer (some ⟨D, 0, none⟩)) → r = { state := .ready, pending := none, fn, tmps := a.tmps, params := ps, assign := as, body := body, defers := D } →
    LoopSat env1 ⟨fr0, sz, ps, as, body, .ready, none, dh⟩ r := by
   intro env1 r dh D hle hd hr
   subst hr
   refine ⟨hs.size, rfl, rfl, rfl, rfl, rfl, hd, fun t v hv => ?_, hst1, hst2⟩
   have hv : look fr t = some v := h0 t v hv
   obtain ⟨y, h1, h2⟩ := hs.val t v hv
   exact ⟨y, h1, Den.mono hle v h2⟩
  have fresh : ∀ k, n ≤ k → env k = none := hs.fresh
  ·obtain rfl := hro.none_
   have t1 : Turn n (n + 1) [] [] [(n, Res.dblk)] env F w (env.set n (.pointer (some ⟨w.heap.size, 0, none⟩))) (fun _ b => b = w.heap.size) (w.alloc (.deferred (some []))) :=
    Turn.newR (fresh n (Nat.le_refl _)) ⟨_, rfl, fun _ => Iff.rfl, alloc_at _ _⟩
   obtain ⟨F1, p1, p2⟩ := turn_step t1 hs.heap hsi sub_nil sub_nil (by simp [lookN, lookC])
   generalize henv1 : env.set n (.pointer (some ⟨w.heap.size, 0, none⟩)) = env1 at t1 p1
   have hn1 : env1 (n + 1) = none := by rw [← henv1]; unfold Env.set; rw [if_neg (by omega)]; exact fresh _ (by omega)
   have hn0 : env1 n = some (.pointer (some ⟨w.heap.size, 0, none⟩)) := by rw [← henv1]; exact Env.set_same _ _ _
   have hwsz : (w.alloc (.deferred (some []))).heap.size = w.heap.size + 1 := by simp
   have t2 : Turn (n + 1) (n + 2) [] [] [(n + 1, Res.loop ⟨fr0, sz, ps, as, body, .ready, none, n⟩)] env1 F1 (w.alloc (.deferred (some []))) (env1.set (n + 1) (.pointer (some ⟨w.heap.size + 1, 0, none⟩))) (fun _ b => b = w.heap.size + 1)
     ((w.alloc (.deferred (some []))).alloc (.loop { state := .ready, pending := none, fn, tmps := a.tmps, params := ps, assign := as, body := body, defers := w.heap.size })) := by
    have := Turn.newR (n := n + 1) (R := []) (F := F1) (w := w.alloc (.deferred (some []))) (o := .loop { state := .ready, pending := none, fn, tmps := a.tmps, params := ps, assign := as, body := body, defers := w.heap.size })
     (r := Res.loop ⟨fr0, sz, ps, as, body, .ready, none, n⟩) (v := .pointer (some ⟨w.heap.size + 1, 0, none⟩)) hn1 (by
      rw [hwsz]
      refine ⟨_, _, rfl, fun _ => Iff.rfl, by rw [← hwsz]; exact alloc_at _ _, recd (t1.le.trans (Env.le_set hn1)) (Env.le_set hn1 _ _ hn0) rfl⟩)
    rw [hwsz] at this
    exact this
   obtain ⟨F2, p3, p4⟩ := turn_step t2 p1 p2 sub_nil sub_nil (by simp [lookN, lookC])
   have hle2 := t1.le.trans t2.le
   refine call (nn := n + 2) (df1 := .mark n :: df) hle2 spec hR hp hA (by omega) ?_ (Env.set_same _ _ _) ⟨hs.size, ?_, ?_, p3, ?_⟩ p4 (run_enterLoop_outer _ _ _ _ _)
   ·intro k hk
    rw [t2.only k (by omega), t1.only k (by omega)]; exact hbase k hk
   ·simp only [DenD]
    exact ⟨_, _, rfl, ⟨_, rfl, t2.le _ _ hn0⟩, hs.defers.mono hle2⟩
   ·intro t v hv
    obtain ⟨y, h1, h2⟩ := hs.val t v hv
    exact ⟨y, h1, Den.mono hle2 v h2⟩
   ·intro k hk
    simp only at hk
    rw [t2.only k (by omega), t1.only k (by omega)]; exact fresh k (by omega)
def roundE (h n n' : Nat) (v : AV) (post : Heap) (e : Exit) (s : St) : Prop :=
 match s.df, look s.H h with
 | [], some (.loop L) => match e with
  | .normal => Fin n n' v post (.bool true) ((h, .loop { L with st := .ready, pend := none }) :: s.H)
  | .ret => Fin n n' v post (.bool false) ((h, .loop { L with st := .done, pend := some .ret }) :: s.H)
  | .exit i => Fin n n' v post (.bool false) ((h, .loop { L with st := .done, pend := some (.exit i) }) :: s.H)
  | .goto i => Fin n n' v post (.bool false) ((h, .loop { L with st := .done, pend := some (.goto i) }) :: s.H)
  | _ => False
 | _, _ => False
def roundQ (P : Program) (T : Tab) (pu : Pure) (h : Nat) (body : Code) (n n' : Nat) (v : AV) (post : Heap) (e : Exit) (s : St) : Prop :=
 match e, s with
 | .normal, ⟨fr, H, n1, sz, df, _, b⟩ => match look H h with
  | some (.loop L) => match L.st with
   | .ready => vcCode (AskR P pu (some h)) T body (roundE h n n' v post) ⟨fr, (h, .loop { L with st := .busy }) :: H, n1, sz, df, [], b⟩
   | _ => False
  | _ => False
 | _, _ => False
theorem RCtr.introR {P : Program} {T : Tab} (hT : TabOK P T) (hm : P.follows .mixedOrders = true) {pu : Pure} (hp : PureOK P pu) {h n n' : Nat} {us : List AV} {R pre post : Heap} {v : AV} {L : LoopR} (hL : look (pre ++ R) h = some (.loop L))
  (b1 : okL n us = true) (b2 : h < n) (b3 : okH n (pre ++ R) = true) (b4 : roB R = true) (d1 : L.ps.size = us.length) (d2 : okF n (zipF L.ps.toList us L.fr) = true) (d3 : (L.ps.toList.all fun t => Nat.blt t L.sz) = true) (c1 : n ≤ n') (c2 : domB pre post = true)
  (hr : vcCode (AskR P pu (some h)) T L.as (roundQ P T pu h L.body n n' v post) ⟨zipF L.ps.toList us L.fr, pre ++ R, n, L.sz, [], [], n⟩) : RCtr P h us R pre n n' v post := by
 refine ⟨c1, c2, ⟨L, hL, d1⟩, ?_⟩
 intro env F w xs l rec hd hl hrec hs hfresh
 obtain ⟨rec', e2, e3, e4⟩ := loop_of hs hL hl
 rw [hrec] at e3; cases e3
 have hsem := vcCode_sound' hT hm (askROK P hp (rh := some h)) L.as hr e4.stat.1
 have htm : ((rec.params.zip xs).foldl (fun tmps (t, a) => tmps.setIfInBounds t a) rec.tmps) = ((L.ps.toList.zip xs.toList).foldl (fun tmps (p : Nat × Value) => tmps.setIfInBounds p.1 p.2) rec.tmps) := by
  rw [e4.ps, ← Array.foldl_toList, Array.toList_zip]
 obtain ⟨z1, z2⟩ := zip_frame (env := env) (sz := L.sz) (ps := L.ps.toList) (us := us) (xs := xs.toList) (fr := L.fr) (tmps := rec.tmps) (by simp [d1]) hd e4.sz e4.fr
 have z2 := z2 (fun t ht => by simpa using List.all_eq_true.1 d3 t ht)
 rw [htm, e4.as, e4.body]
 refine roundIn_of_wpIn trivial ?_
 refine body_sem (args := []) (rh := some h) (ro := some l) d2 b3 b4 hsem ⟨b2, hl⟩ z1 rfl z2 hs ?_
 intro envI e s1 env1 F1 a1 w1 hI hQ k1 k2 k3 k4 k5 k6
 have hlI : envI h = some (.pointer (some ⟨l, 0, none⟩)) := by rw [hI h b2]; exact hl
 obtain ⟨fr1, H1, n1, sz1, df1, log1, b1'⟩ := s1
 simp only at k1 k2 k3
 subst k1; subst k2
 cases e with
 | normal =>
  unfold roundQ at hQ
  simp only at hQ
  split at hQ
  ·rename_i L1 hL1
   split at hQ
   ·rename_i hst1
    obtain ⟨rec1, f2, f3, f4⟩ := loop_of (l := l) k5.heap hL1 (by rw [k4 h b2]; exact hlI)
    have hl1 : env1 h = some (.pointer (some ⟨l, 0, none⟩)) := by rw [k4 h b2]; exact hlI
    have t1 := loop_put (n := n1) (R := []) (L := L1) (L' := { L1 with st := .busy }) (rec' := { rec1 with state := .busy }) hl1 f2 (getElem?_lt f3) ⟨f4.sz, f4.ps, f4.as, f4.body, rfl, f4.pend, f4.dh, f4.fr, f4.stat⟩
    obtain ⟨F2, q1, q2⟩ := turn_step t1 k5.heap k6 sub_nil (sub_one hL1) dom_self
    refine ⟨_, run_beginRound f3 (by rw [f4.st]; exact hst1), ?_⟩
    have hsem2 := vcCode_sound' hT hm (askROK P hp (rh := some h)) L.body hQ e4.stat.2
    refine hsem2 _ _ w envI (some l) _ env1 F2 a1 _ ⟨b2, hlI⟩ k3 k4 ⟨k5.size, k5.defers, k5.val, q1, k5.fresh⟩ q2 ?_
    intro e s2 env2 F3 a2 w2 hB m1 m2 m3 m4 m5 m6
    obtain ⟨fr2, H2, n2, sz2, df2, log2, b2'⟩ := s2
    simp only at m1 m2 m3
    subst m1; subst m2
    have hl2 : env2 h = some (.pointer (some ⟨l, 0, none⟩)) := by rw [m4 h b2]; exact hlI
    unfold roundE at hB
    simp only at hB
    split at hB
    ·rename_i L2 hL2
     obtain ⟨rec2, g2, g3, g4⟩ := loop_of (l := l) m5.heap hL2 hl2
     have fin : ∀ (jump : Option Code) (L' : LoopR), L' = { L2 with st := if jump.isNone then .ready else .done, pend := jump } → Fin b2' n' v post (.bool jump.isNone) ((h, .loop L') :: H2) →
       ∃ v' w', (Instr.endRound l jump).run P w2 = .ok v' w' ∧ ∃ env' F' x, Ending.returned v' = .returned x ∧ Turn b2' n' R pre post env F w env' F' w' ∧ Den env' v x := by
      intro jump L' hL' hfin
      subst hL'
      have t2 := loop_put (n := n2) (R := []) (L := L2) (L' := { L2 with st := if jump.isNone then .ready else .done, pend := jump }) (rec' := { rec2 with state := if jump.isNone then .ready else .done, pending := jump }) hl2 g2 (getElem?_lt g3)
       ⟨g4.sz, g4.ps, g4.as, g4.body, rfl, rfl, g4.dh, g4.fr, g4.stat⟩
      obtain ⟨F4, p1, p2⟩ := turn_step t2 m5.heap m6 sub_nil (sub_one hL2) dom_self
      refine ⟨_, _, run_endRound jump g3, ?_⟩
      have hF := hfin
      obtain ⟨env3, F5, r1, r2⟩ := fin_turn (x := .bool jump.isNone) hF hI hfresh c1 (fun k hk => m4 k hk) p1 p2 (by simp only [Den])
      exact ⟨env3, F5, _, rfl, r1, r2⟩
     cases e with
     | normal => exact fin none _ rfl hB
     | ret => exact fin (some .ret) _ rfl hB
     | exit i => exact fin (some (.exit i)) _ rfl hB
     | goto i => exact fin (some (.goto i)) _ rfl hB
     | panic c => exact hB.elim
     | outgrown => exact hB.elim
    ·exact hB.elim
   ·exact hQ.elim
  ·exact hQ.elim
 | _ => unfold roundQ at hQ; exact hQ.elim
theorem yieldR {P : Program} {h : Nat} {us : List AV} {R pre post H : Heap} {n n' sz : Nat} {v : AV} {o : Oper} {fr : Fr} {df : List Df} {log : List (List Nat × List Nat)} {b : Nat} {K : St → Prop} (spec : RCtr P h us R pre n n' v post) (hR : Sub R H) (hp : Sub pre H)
  (hK : put0 o v fr (post ++ H) n' sz df log b (keysOf R) (keysOf post) K) : AtYield P h us o ⟨fr, H, n, sz, df, log, b⟩ K := by
 obtain ⟨k1, k2⟩ := putM_iff (askOK P).toOpAns ((put0_eq (P := P)) ▸ hK)
 refine ⟨fun hcall => ?_⟩
 exact ⟨⟨true, R, pre, post, n, n', v, keysOf R, keysOf post⟩, rfl, rfl, spec.1, k1, yield_at spec hcall, hR, hp, domB_ok spec.2.1, fun k x hk => look_map_dom hk, fun k x hk => look_map_dom hk, k2⟩
def jumpsA (P : Program) (T : Tab) (pu : Pure) (rh : Option Nat) (b : Code) (Q : Exit → St → Prop) : Nat → Exit → St → Prop
 | 0, e, s => match e with
  | .goto _ => False
  | e => Q e s
 | n + 1, e, s => match e with
  | .goto l => match findLabel b l with
   | some rest => match staticC rest, s with
    | true, ⟨fr, H, n2, sz, df, _, bs⟩ => vcCode (AskR P pu rh) T rest (jumpsA P T pu rh b Q n) ⟨fr, H, n2, sz, df, [], bs⟩
    | false, _ => False
   | none => False
  | e => Q e s
theorem scopeR {P : Program} {T : Tab} (hT : TabOK P T) (hm : P.follows .mixedOrders = true) {pu : Pure} (hp : PureOK P pu) {rh : Option Nat} {b : Code} {Q : Exit → St → Prop} {s : St} (n : Nat) (h : vcCode (AskR P pu rh) T b (jumpsA P T pu rh b Q n) s) : AtScope P rh b Q s := by
 refine ⟨fun hst => ?_⟩
 have hsem := vcCode_sound' hT hm (askROK P hp (rh := rh)) b h hst
 intro X Y w0 env0 ro Qc env F a w hro hb hbase hs hsi hq
 refine wpIn_scope_unroll n ?_
 have key : ∀ (n : Nat) (e : Exit) (s' : St) (env' : Env) (F' : Foot) (a' : Act) (w' : World), jumpsA P T pu rh b Q n e s' → s'.b = s.b → s'.sz = s.sz → s'.b ≤ s'.n → (∀ k, k < s'.b → env' k = env0 k) → SatS env' s' F' a' w' →
   Since X Y w0 s'.H F' w' → Jumps (Wd ro) 0 P b Qc n e a' w' := by
  intro n
  induction n with
  | zero =>
   intro e s' env' F' a' w' h1 h2 h3 h4 h5 h6 h7
   cases e with
   | goto l => unfold jumpsA at h1; exact h1.elim
   | _ => exact hq _ _ _ _ _ _ h1 h2 h3 h4 h5 h6 h7
  | succ n ih =>
   intro e s' env' F' a' w' h1 h2 h3 h4 h5 h6 h7
   cases e with
   | goto l =>
    unfold jumpsA at h1
    simp only at h1
    split at h1
    ·rename_i rest hf
     split at h1
     ·rename_i fr H n2 sz df log bs hst
      refine ⟨rest, hf, ?_⟩
      refine vcCode_sound' hT hm (askROK P hp (rh := rh)) rest h1 hst X Y w0 env0 ro _ env' F' a' w' (by have := h2; simp only at this; rw [this]; exact hro) h4 h5 (h6.congr (fun t => rfl) (fun t => rfl)) h7 ?_
      intro e s2 env2 F2 a2 w2 q k1 k2 k3 k4 k5 k6
      exact ih e s2 env2 F2 a2 w2 q (k1.trans h2) (k2.trans h3) k3 k4 k5 k6
     ·exact h1.elim
    ·exact h1.elim
   | _ => exact hq _ _ _ _ _ _ h1 h2 h3 h4 h5 h6 h7
 exact hsem X Y w0 env0 ro _ env F a w hro hb hbase hs hsi fun e s' env' F' a' w' h1 h2 h3 h4 h5 h6 h7 => key n e s' env' F' a' w' h1 h2 h3 h4 h5 h6 h7
def leaveM (T : Tab) (rs : List ResultVar) (K : AV → Heap → Nat → Prop) (fr : Fr) : List Df → Heap → Nat → Prop
 | [], H, n => match resL T fr H rs with
  | some l => K (outV l) H n
  | none => False
 | .mark h :: r, H, n => match look H h with
  | some .dblk => leaveM T rs K fr r ((h, .gone) :: H) n
  | _ => False
 | .call _ _ :: _, _, _ => False
def endM (T : Tab) (rs : List ResultVar) (K : AV → Heap → Nat → Prop) (e : Exit) (s : St) : Prop :=
 match e, s with
 | .normal, ⟨fr, H, n, _, df, _, _⟩ => leaveM T rs K fr df H n
 | .ret, ⟨fr, H, n, _, df, _, _⟩ => leaveM T rs K fr df H n
 | _, _ => False
theorem leaveM_ok {P : Program} {T : Tab} {rs : List ResultVar} {K : AV → Heap → Nat → Prop} {fr : Fr} : ∀ {df : List Df} {H : Heap} {n : Nat}, leaveM T rs K fr df H n → LeaveQ P T rs fr K df H n
 | [], H, n, h => by
  unfold leaveM at h
  split at h
  ·rename_i l hl; exact .nil hl h
  ·exact h.elim
 | .mark hh :: r, H, n, h => by
  unfold leaveM at h
  split at h
  ·rename_i hl; exact .mark hl (leaveM_ok h)
  ·exact h.elim
 | .call _ _ :: _, _, _, h => by unfold leaveM at h; exact h.elim
theorem Ctr.introM {P : Program} {T : Tab} (hT : TabOK P T) (hm : P.follows .mixedOrders = true) {pu : Pure} (hp : PureOK P pu) {f : FuncId} {fn : Func} {c : Code} {args : List AV} {R pre post : Heap} {n n' : Nat} {r : AV}
  (hf : P.funcs[f]? = some fn) (hb : fn.body = some c) (hst : (staticC c && (HasBody P f && Nat.ble n n')) = true) (hlen0 : Nat.ble args.length fn.ntmps = true) (hok : okL n args = true) (hokH : okH n (pre ++ R) = true) (hro : (roB R && domB pre post) = true)
  (h : vcCode (AskR P pu) T c (endM T fn.results.toList (fun v H _ => Fin n n' r post v H)) ⟨frOf 0 args, pre ++ R, n, fn.ntmps, [], [], n⟩) : Ctr P f args R pre n n' r post := by
 have hst' := hst
 simp only [Bool.and_eq_true] at hst'
 refine Ctr.intro_gen hT hf hb hst hlen0 hok hokH hro ?_
 refine (vcCode_sound' hT hm (askROK P hp) c h hst'.1).mono fun e s h => ?_
 obtain ⟨fr, H, n, sz, df, log, b⟩ := s
 cases e <;> simp only [endM, leaveE] at h ⊢ <;> first | exact h.elim | exact leaveM_ok h
end
end Go.SX
-- SQUEEZED
