/- SX, part T: contracts under other numbers, in greater heaps; values without handles; walks that ask, with rows and ready contracts. -/
import Derived.Test.YthmiaipampdegaaGreatDoorSXS
namespace Go.SX
noncomputable section

/-- A contract under other numbers. -/
theorem Ctr.ren {P : Program} {g : FuncId} {args : List AV} {R pre post : Heap} {n n' N : Nat} {r : AV} (σ : List Nat) (spec : Ctr P g args R pre n n' r post) (hcb : callB σ n N = true) :
    Ctr P g (renL (sg σ N) args) (renH (sg σ N) R) (renH (sg σ N) pre) N (N + (n' - n)) (renA (sg σ N) r) (renH (sg σ N) post) := by
  simp only [callB, Bool.and_eq_true] at hcb
  obtain ⟨hσ, hnd, hlt⟩ := hcb
  have hσ := Nat.eq_of_beq_eq_true hσ
  obtain ⟨hbody, hnn, hdom, spec⟩ := spec
  have hinj := sg_inj hnd hlt
  generalize hπ : sg σ N = π at *
  have hπlt : ∀ h, h < n → π h < N := by
    intro h hh
    rw [← hπ]; unfold sg; rw [nth_eq]
    have : h < σ.length := by omega
    rw [List.getElem?_eq_getElem this]
    have := List.all_eq_true.1 hlt σ[h] (List.getElem_mem this)
    simpa using this
  have hπge : ∀ h, n ≤ h → π h = N + (h - n) := by
    intro h hh
    rw [← hπ]; unfold sg; rw [nth_eq, List.getElem?_eq_none (by omega), hσ]
  refine ⟨hbody, by omega, ?_, ?_⟩
  · unfold domB
    rw [List.all_eq_true]
    intro p hp
    have key : ∀ l : Heap, ∀ p ∈ renH π l, ∃ q ∈ l, p = (π q.1, renR π q.2) := by
      intro l
      induction l with
      | nil => intro p hp; cases hp
      | cons q l ih =>
        obtain ⟨k, q⟩ := q
        intro p hp
        rcases List.mem_cons.1 hp with rfl | hp
        · exact ⟨_, List.mem_cons_self, rfl⟩
        · obtain ⟨q', h1, h2⟩ := ih p hp; exact ⟨q', List.mem_cons_of_mem _ h1, h2⟩
    have key' : ∀ l : Heap, ∀ q ∈ l, (π q.1, renR π q.2) ∈ renH π l := by
      intro l
      induction l with
      | nil => intro p hp; cases hp
      | cons q l ih =>
        obtain ⟨k, q⟩ := q
        intro p hp
        rcases List.mem_cons.1 hp with rfl | hp
        · exact List.mem_cons_self
        · exact List.mem_cons_of_mem _ (ih p hp)
    obtain ⟨q, h1, rfl⟩ := key _ p hp
    have := List.all_eq_true.1 hdom q h1
    rw [List.any_eq_true] at this ⊢
    obtain ⟨q', h2, h3⟩ := this
    exact ⟨_, key' _ q' h2, by rw [show q.1 = q'.1 from Nat.eq_of_beq_eq_true h3]; exact Nat.beq_refl _⟩
  · intro env F w xs hx hsat hfresh
    have hlook : ∀ {h : Nat} {r0 : Res}, look (pre ++ R) h = some r0 → look (renH π pre ++ renH π R) (π h) = some (renR π r0) := by
      intro h r0 hl
      rw [look_append] at hl ⊢
      rw [look_renH hinj, look_renH hinj]
      cases hq : look pre h with
      | some y => rw [hq] at hl; simp at hl; subst hl; simp
      | none => rw [hq] at hl; simp at hl; simp [hl]
    have hsatC : SatH (fun h => env (π h)) (pre ++ R) (fun h => F (π h)) w := by
      refine ⟨?_, ?_⟩
      · intro h r0 hl
        obtain ⟨v, hv, hs⟩ := hsat.sat (hlook hl)
        exact ⟨v, hv, sat_ren.1 hs⟩
      · intro h r0 h' r1 hl hl' hne he b0 hb0
        exact hsat.apart (hlook hl) (hlook hl') (fun e => hne (hinj _ _ e)) (by rw [excl_ren]; exact he) b0 hb0
    have hC := spec (fun h => env (π h)) (fun h => F (π h)) w xs (dens_ren.1 hx) hsatC (fun h h1 h2 => by
      rw [hπge h h1]; exact hfresh _ (by omega) (by omega))
    refine Calls.mono hC ?_
    rintro e w' ⟨envC, FC, x, rfl, t, hden⟩
    let env' : Env := fun k => if N ≤ k ∧ k < N + (n' - n) then envC (k - N + n) else env k
    let F' : Foot := fun k b0 => ∃ h, π h = k ∧ FC h b0 ∧ ∃ r0, look post h = some r0
    have hcomp : (fun h => env' (π h)) = envC := by
      funext h
      simp only [env']
      by_cases hh : h < n
      · have := hπlt h hh
        rw [if_neg (by omega), t.only h (by omega)]
      · rw [hπge h (by omega)]
        by_cases hh2 : h < n'
        · rw [if_pos (by omega)]; congr 1; omega
        · rw [if_neg (by omega), t.only h (by omega), hπge h (by omega)]
    have hle : env.le env' := by
      intro k v hv
      simp only [env']
      split
      · rename_i hk2
        rw [hfresh k hk2.1 hk2.2] at hv; cases hv
      · exact hv
    refine ⟨env', F', x, rfl, ⟨hle, ?_, ⟨?_, ?_⟩, ?_, ?_⟩, (by rw [den_ren, hcomp]; exact hden)⟩
    · intro k hk2; simp only [env']; rw [if_neg hk2]
    · intro k r0 hl
      obtain ⟨h, r1, rfl, h1, rfl⟩ := look_renH_of hinj hl
      obtain ⟨v, hv, hs⟩ := t.sat.sat h1
      refine ⟨v, ?_, ?_⟩
      · have := congrFun hcomp h; rw [show env' (π h) = envC h from this]; exact hv
      · rw [sat_ren, hcomp]
        have : F' (π h) = FC h := by
          funext b0
          simp only [F', eq_iff_iff]
          constructor
          · rintro ⟨h', e1, e2, _⟩; rw [← hinj _ _ e1]; exact e2
          · intro e; exact ⟨h, rfl, e, r1, h1⟩
        rw [this]; exact hs
    · intro k r0 k' r0' hl hl' hne he b0
      obtain ⟨h, r1, rfl, h1, rfl⟩ := look_renH_of hinj hl
      obtain ⟨h', r1', rfl, h1', rfl⟩ := look_renH_of hinj hl'
      rintro ⟨i, e1, e2, _⟩ ⟨i', e1', e2', _⟩
      rw [hinj _ _ e1] at e2; rw [hinj _ _ e1'] at e2'
      rw [excl_ren] at he
      exact t.sat.apart h1 h1' (fun e => hne (by rw [e])) he b0 e2 e2'
    · intro k r0 b0 hl
      obtain ⟨h, r1, rfl, h1, rfl⟩ := look_renH_of hinj hl
      rintro ⟨i, e1, e2, _⟩
      rw [hinj _ _ e1] at e2
      rcases t.owns h1 e2 with ⟨h0, q0, q1, q2, q3⟩ | ⟨h0, q0, q1, q2, q3, q4⟩ | q
      · exact .inl ⟨π h0, renR π q0, by rw [look_renH hinj, q1]; rfl, q2, by rw [excl_ren, excl_ren]; exact q3⟩
      · exact .inr (.inl ⟨π h0, renR π q0, by rw [look_renH hinj, q1]; rfl, q2, by rw [excl_ren]; exact q3, by rw [excl_ren]; exact q4⟩)
      · exact .inr (.inr q)
    · refine t.frame.mono ?_
      rintro b0 ⟨h, q0, q1, q2, q3⟩
      exact ⟨π h, renR π q0, by rw [look_renH hinj, q1]; rfl, by rw [excl_ren]; exact q2, q3⟩

/-- A contract in a greater heap. -/
theorem Ctr.frame {P : Program} {g : FuncId} {args : List AV} {R R' pre pre' post : Heap} {n n' : Nat} {r : AV} (spec : Ctr P g args R pre n n' r post)
    (hro : ∀ h q, look R' h = some q → q.excl = false) (hex : ∀ h q, look pre h = some q → q.excl = true) (hR : Sub R (pre' ++ R')) (hp : Sub pre (pre' ++ R')) : Ctr P g args R' pre' n n' r (post ++ pre') := by
  obtain ⟨hbody, hnn, hdom, spec⟩ := spec
  have hpre : ∀ h q, look pre h = some q → look pre' h = some q := by
    intro h q hl
    have := hp h q hl
    rw [look_append] at this
    cases hq : look pre' h with
    | some y => rw [hq] at this; simpa using this
    | none =>
      rw [hq] at this
      have := hro h q (by simpa using this)
      rw [hex h q hl] at this; cases this
  refine ⟨hbody, hnn, ?_, ?_⟩
  · unfold domB
    rw [List.all_eq_true]
    intro p hp
    rw [List.any_eq_true]
    exact ⟨p, List.mem_append_right _ hp, Nat.beq_refl _⟩
  · intro env F w xs hx hsat hfresh
    refine Calls.mono (spec env F w xs hx (hsat.part fun h q hl => ?_) hfresh) ?_
    · rw [look_append] at hl
      cases hq : look pre h with
      | some y => rw [hq] at hl; simp at hl; subst hl; exact hp h _ hq
      | none => rw [hq] at hl; exact hR h q (by simpa using hl)
    · rintro e w' ⟨env', F', x, rfl, t, hden⟩
      obtain ⟨F'', h1, h2⟩ := t.whole hsat hR hp (domB_ok hdom)
      refine ⟨env', F'', x, rfl, ⟨t.le, t.only, h1.part fun h q hl => ?_, ?_, t.frame.mono ?_⟩, hden⟩
      · rw [look_append] at hl ⊢
        rw [look_append]
        cases hq : look post h with
        | some y => rw [hq] at hl; simpa using hl
        | none => rw [hq] at hl; simp at hl; simp [hl]
      · intro h q b hl hb
        rcases h2 (r := q) (by
          rw [look_append] at hl ⊢
          rw [look_append]
          cases hq : look post h with
          | some y => rw [hq] at hl; simpa using hl
          | none => rw [hq] at hl; simp at hl; simp [hl]) hb with ⟨h0, r0, g1, g2, g3⟩ | g
        · rw [look_append] at g1
          cases hq : look pre' h0 with
          | some y => rw [hq] at g1; simp at g1; subst g1; exact .inl ⟨h0, _, hq, g2, g3⟩
          | none =>
            rw [hq] at g1
            have g1 : look R' h0 = some r0 := by simpa using g1
            have ge := hro h0 r0 g1
            refine .inr (.inl ⟨h0, r0, g1, g2, ge, ?_⟩)
            cases he : q.excl with
            | false => rfl
            | true => rw [g3 he] at ge; cases ge
        · exact .inr (.inr g)
      · rintro b ⟨h, q, g1, g2, g3⟩
        exact ⟨h, q, hpre h q g1, g2, g3⟩

/-- Texts, numbers, truth values: no handles. -/
def bareA : AV → Bool
  | .bool _ => true
  | .int _ _ => true
  | .str _ => true
  | _ => false

theorem bare_ren {π : Nat → Nat} {l : List AV} (h : l.all bareA = true) : renL π l = l := by
  induction l with
  | nil => simp [renL]
  | cons v l ih =>
    simp only [List.all_cons, Bool.and_eq_true] at h
    rw [renL, ih h.2]
    cases v <;> first | rfl | (cases h.1)
theorem bare_ok {n : Nat} {l : List AV} (h : l.all bareA = true) : okL n l = true := by
  induction l with
  | nil => rfl
  | cons v l ih =>
    simp only [List.all_cons, Bool.and_eq_true] at h
    rw [okL_cons, ih h.2]
    cases v <;> first | rfl | (cases h.1)
theorem bare_hs {a : List Nat} {l : List AV} (h : l.all bareA = true) : hsL l a = a := by
  induction l with
  | nil => rfl
  | cons v l ih =>
    simp only [List.all_cons, Bool.and_eq_true] at h
    show hsA v (hsL l a) = a
    rw [ih h.2]
    cases v <;> first | rfl | (cases h.1)
theorem bare_leaf {l : List AV} (h : l.all bareA = true) : l.all leafA = true := by
  rw [List.all_eq_true] at h ⊢
  intro v hv
  have := h v hv
  cases v <;> first | rfl | (cases this)

/-- The value into its slot, as it stands. -/
def put0 (o : Oper) (v : AV) (fr : Fr) (H : Heap) (n sz : Nat) (df : List Df) (log : List (List Nat × List Nat)) (bs : Nat) (rd wr : List Nat) (K : St → Prop) : Prop :=
  match o.dst with
  | none => K ⟨fr, H, n, sz, df, (rd, wr) :: log, bs⟩
  | some d => match Nat.blt d sz with
    | true => K ⟨(d, v) :: fr, H, n, sz, df, (rd, wr) :: log, bs⟩
    | false => False

/-- Where a walk stands: at an operation, at a call, at a loop .. -/
structure AtOp (P : Program) (o : Oper) (s : St) (K : St → Prop) : Prop where
  ex : Stop P o s K
structure AtCall (P : Program) (g : FuncId) (vs : List AV) (o : Oper) (s : St) (K : St → Prop) : Prop where
  ex : CallStop P g vs o s K
structure AtYield (P : Program) (h : Nat) (vs : List AV) (o : Oper) (s : St) (K : St → Prop) : Prop where
  ex : YieldStop P h vs o s K
structure AtLoop (P : Program) (rh : Option Nat) (b : Code) (Q : Exit → St → Prop) (s : St) : Prop where
  ex : LoopStop P rh b Q s
structure AtScope (P : Program) (rh : Option Nat) (b : Code) (Q : Exit → St → Prop) (s : St) : Prop where
  ex : ScopeStop P rh b Q s
structure AtRange (P : Program) (rh : Option Nat) (f : Operand) (ps : Array Tmp) (as b : Code) (Q : Exit → St → Prop) (s : St) : Prop where
  ex : RangeStop P rh f ps as b Q s

/-- The answer by a proposition, with rows, and with functions whose values are known. -/
def AskR (P : Program) (pu : Pure) (rh : Option Nat := none) : Ans Prop where
  rows := true
  dfr := false
  bad := False
  ob := fun p _ a => p ∧ a
  bc := bcase
  num := fun n K => K n
  int := fun n K => K n
  str := fun s K => K s
  pre := fun _ _ _ d => d
  stop := AtOp P
  call := fun g vs o s K => match pu g vs with
    | some v => match s with
      | ⟨fr, H, n, sz, df, log, b⟩ => put0 o v fr H n sz df log b [] [] K
    | none => AtCall P g vs o s K
  yld := AtYield P
  loop := fun _ b Q s => AtLoop P rh b Q s
  scope := fun _ b Q s => AtScope P rh b Q s
  range := fun f ps as _ b Q s => AtRange P rh f ps as b Q s
  num_eq := fun _ _ => rfl
  int_eq := fun _ _ => rfl
  str_eq := fun _ _ => rfl

theorem put0_eq {P : Program} {o : Oper} {v : AV} {fr : Fr} {H : Heap} {n sz : Nat} {df : List Df} {log : List (List Nat × List Nat)} {bs : Nat} {rd wr : List Nat} {K : St → Prop} :
    put0 o v fr H n sz df log bs rd wr K = putM (Ask P) o v fr H n sz df log bs rd wr K := by
  unfold put0 putM
  cases o.dst with
  | none => rfl
  | some d => simp only [force_eq]; rfl

theorem askR_call {P : Program} {pu : Pure} (hp : PureOK P pu) {g : FuncId} {vs : List AV} {v : AV} (hv : pu g vs = some v) {o : Oper} {fr : Fr} {H : Heap} {n sz : Nat} {df : List Df} {log : List (List Nat × List Nat)} {b : Nat} {K : St → Prop}
    (h : put0 o v fr H n sz df log b [] [] K) : CallStop P g vs o ⟨fr, H, n, sz, df, log, b⟩ K := by
  intro hcall
  obtain ⟨k1, k2⟩ := putM_iff (askOK P).toOpAns ((put0_eq (P := P)) ▸ h)
  exact ⟨⟨true, [], [], [], n, n, v, [], []⟩, rfl, rfl, Nat.le_refl _, k1, ((hp hv).elim (fun h => call_at (h n) hcall) (fun h => ext_at h hcall)).y, sub_nil, sub_nil, by simp [lookN, lookC], by simp [lookN, lookC], by simp [lookN, lookC], k2⟩

theorem askROK (P : Program) {pu : Pure} (hp : PureOK P pu) (rh : Option Nat := none) : CodeAns P rh (AskR P pu rh) (fun p => p) where
  bad := fun h => h
  ob := fun h => h
  bc := by
    intro b x y h
    cases b with
    | true => exact ⟨fun _ => h, fun e => by cases e⟩
    | false => exact ⟨fun e => (by cases e), fun _ => h⟩
  pre := fun h => .inr h
  stop := fun h => h.ex
  call := by
    intro g vs o s K h
    simp only [AskR] at h
    split at h
    · rename_i v hv
      obtain ⟨fr, H, n, sz, df, log, b⟩ := s
      exact askR_call hp hv h
    · exact h.ex
  yld := fun h => h.ex
  dfr := fun h => by cases h
  loop := fun _ hs h => h.ex hs
  scope := fun _ hs h => h.ex hs
  range := fun _ hs hs' h => h.ex hs hs'

/-- The end of a function, as it stands. -/
def end0 (T : Tab) (rs : List ResultVar) (K : AV → Heap → Nat → Prop) (e : Exit) (s : St) : Prop :=
  match e, s with
  | .normal, ⟨fr, H, n, _, [], _, _⟩ => match resL T fr H rs with
    | some l => K (outV l) H n
    | none => False
  | .ret, ⟨fr, H, n, _, [], _, _⟩ => match resL T fr H rs with
    | some l => K (outV l) H n
    | none => False
  | _, _ => False

theorem end0_retQ {P : Program} {T : Tab} {rs : List ResultVar} {K : AV → Heap → Nat → Prop} {e : Exit} {s : St} (h : end0 T rs K e s) : retQ (Ask P) T rs K e s := by
  obtain ⟨fr, H, n, sz, df, log, b⟩ := s
  cases e <;> cases df <;> simp only [end0, retQ, endQ] at h ⊢ <;> first | exact h.elim | skip
  all_goals
    split at h
    · rename_i l hl
      simp only [hl, force_eq]; exact h
    · exact h.elim

theorem Ctr.introR {P : Program} {T : Tab} (hT : TabOK P T) (hm : P.follows .mixedOrders = true) {pu : Pure} (hp : PureOK P pu) {f : FuncId} {fn : Func} {c : Code} {args : List AV} {R pre post : Heap} {n n' : Nat} {r : AV}
    (hf : P.funcs[f]? = some fn) (hb : fn.body = some c) (hst : (staticC c && (HasBody P f && Nat.ble n n')) = true) (hlen0 : Nat.ble args.length fn.ntmps = true) (hok : okL n args = true) (hokH : okH n (pre ++ R) = true) (hro : (roB R && domB pre post) = true)
    (h : vcCode (AskR P pu) T c (end0 T fn.results.toList (fun v H _ => Fin n n' r post v H)) ⟨frOf 0 args, pre ++ R, n, fn.ntmps, [], [], n⟩) : Ctr P f args R pre n n' r post := by
  have hst' := hst
  simp only [Bool.and_eq_true] at hst'
  refine Ctr.intro_sem hT hf hb hst hlen0 hok hokH hro ?_
  exact (vcCode_sound' hT hm (askROK P hp) c h hst'.1).mono fun e s h => end0_retQ h

/-- A call by its contract. -/
theorem callR {P : Program} {g : FuncId} {args vs : List AV} {R pre post post' : Heap} {n n' : Nat} {r r' : AV} {o : Oper} {fr : Fr} {H : Heap} {N sz : Nat} {df : List Df}
    {log : List (List Nat × List Nat)} {b : Nat} {K : St → Prop} (σ : List Nat) (spec : Ctr P g args R pre n n' r post) (hpost : renH (sg σ N) post = post') (hr : renA (sg σ N) r = r')
    (hargs : renL (sg σ N) args = vs) (hcb : callB σ n N = true) (hR : HasAll H (sg σ N) R) (hp : HasAll H (sg σ N) pre)
    (hK : put0 o r' fr (post' ++ H) (N + (n' - n)) sz df log b (keysOf (renH (sg σ N) R)) (keysOf post') K) :
    AtCall P g vs o ⟨fr, H, N, sz, df, log, b⟩ K := by
  subst hpost; subst hr
  refine ⟨call σ spec ?_ hargs hcb hR hp⟩
  rw [pushH_eq]
  exact (put0_eq (P := P)) ▸ hK

/-- An operation by its triple. -/
theorem stop0 {P : Program} {o : Oper} {fr : Fr} {H R pre post : Heap} {n n' sz : Nat} {df : List Df} {log : List (List Nat × List Nat)} {b : Nat} {v : AV} {K : St → Prop} (t : Triple P o fr R pre n n' v post) (hn : n ≤ n')
    (hR : Sub R H) (hp : Sub pre H) (hdom : domB pre post = true) (hK : put0 o v fr (post ++ H) n' sz df log b (keysOf R) (keysOf post) K) : AtOp P o ⟨fr, H, n, sz, df, log, b⟩ K := by
  obtain ⟨k1, k2⟩ := putM_iff (askOK P).toOpAns ((put0_eq (P := P)) ▸ hK)
  refine ⟨?_⟩
  exact ⟨⟨true, R, pre, post, n, n', v, keysOf R, keysOf post⟩, rfl, rfl, hn, k1, t.y, hR, hp, domB_ok hdom, fun k x hk => look_map_dom hk, fun k x hk => look_map_dom hk, k2⟩

/-- A call by a triple of its own. -/
theorem call0 {P : Program} {g : FuncId} {vs : List AV} {o : Oper} {s : St} {K : St → Prop} (h : IsCall o s.fr g vs → AtOp P o s K) : AtCall P g vs o s K := ⟨fun hc => (h hc).ex⟩

theorem okL_app {n : Nat} {l m : List AV} : okL n (l ++ m) = (okL n l && okL n m) := by
  induction l with
  | nil => rfl
  | cons v l ih => simp only [List.cons_append, okL_cons, ih, Bool.and_assoc]
theorem renL_app {π : Nat → Nat} {l m : List AV} : renL π (l ++ m) = renL π l ++ renL π m := by
  induction l with
  | nil => simp [renL]
  | cons v l ih => simp [renL, ih]
theorem bare_app {l m : List AV} (h : l.all bareA = true) (k : m.all bareA = true) : (l ++ m).all bareA = true := by simp [List.all_append, h, k]
theorem bare_take {l : List AV} (n : Nat) (h : l.all bareA = true) : (l.take n).all bareA = true := by
  rw [List.all_eq_true] at h ⊢; intro x hx; exact h x (List.mem_of_mem_take hx)
theorem bare_drop {l : List AV} (n : Nat) (h : l.all bareA = true) : (l.drop n).all bareA = true := by
  rw [List.all_eq_true] at h ⊢; intro x hx; exact h x (List.mem_of_mem_drop hx)

theorem wrap_small {n : Int} (h0 : -9223372036854775808 ≤ n) (h1 : n < 9223372036854775808) : IntKind.i64.wrap n = n := by
  rw [IntKind.wrap_i64]; omega

theorem spine_rec {β α : Type} (l : List β) (K : List β → α) : (List.rec (motive := fun _ => (List β → α) → α) (fun K => K []) (fun v _ ih K => ih fun l => K (v :: l)) l : (List β → α) → α) K = K l := spine_eq
theorem splice_mid {A M l : List AV} {k : Nat} (h : A.length = k) : splice (A ++ M) k l = A ++ (l ++ M.drop l.length) := by
  subst h
  rw [splice_def, List.take_left, List.drop_append, List.drop_eq_nil_of_le (by omega), List.nil_append, Nat.add_sub_cancel_left]
theorem splice_end {A l : List AV} {k : Nat} (h : A.length = k) : splice A k l = A ++ l := by
  have := splice_mid (M := []) (l := l) h
  simpa using this

theorem readsA_row {z h i len e k : Nat} {c rc : Option Nat} {cs : List AV} (hle : i * z + k * z ≤ cs.length) : readsA z (.sv h z i len c) (some (.row e z cs rc)) k = some ((cs.drop (i * z)).take (k * z)) := by
  simp [readsA, Nat.ble_eq_true_of_le hle]

/-- Less is said of what lies behind: some handles are given up. -/
theorem Ctr.weak {P : Program} {g : FuncId} {args : List AV} {R pre post post' : Heap} {n n' : Nat} {r : AV} (h : Ctr P g args R pre n n' r post)
    (hp : ∀ k q, look post' k = some q → look post k = some q ∨ (q = .gone ∧ ∃ q0, look post k = some q0)) (hdom : domB pre post' = true) : Ctr P g args R pre n n' r post' := by
  classical
  obtain ⟨hbody, hnn, _, spec⟩ := h
  refine ⟨hbody, hnn, hdom, ?_⟩
  intro env F w xs hx hsat hfresh
  refine Calls.mono (spec env F w xs hx hsat hfresh) ?_
  rintro e w' ⟨env', F', x, rfl, t, hden⟩
  let F'' : Foot := fun k b => look post' k ≠ some .gone ∧ F' k b
  have key : ∀ {k q}, look post' k = some q → q ≠ .gone → look post k = some q ∧ ∀ b, F'' k b ↔ F' k b := by
    intro k q hl hq
    rcases hp k q hl with h | ⟨h, _⟩
    · exact ⟨h, fun b => ⟨fun h => h.2, fun h => ⟨fun e => hq (by rw [hl] at e; exact Option.some.inj e), h⟩⟩⟩
    · exact absurd h hq
  refine ⟨env', F'', x, rfl, ⟨t.le, t.only, ⟨?_, ?_⟩, ?_, t.frame⟩, hden⟩
  · intro k q hl
    by_cases hq : q = .gone
    · subst hq
      have : ∃ q0, look post k = some q0 := by
        rcases hp k _ hl with h | ⟨_, h⟩
        · exact ⟨_, h⟩
        · exact h
      obtain ⟨q0, h0⟩ := this
      obtain ⟨v, hv, _⟩ := t.sat.sat h0
      exact ⟨v, hv, fun b hb => hb.1 hl⟩
    · obtain ⟨h1, h2⟩ := key hl hq
      obtain ⟨v, hv, hs⟩ := t.sat.sat h1
      refine ⟨v, hv, ?_⟩
      have : F'' k = F' k := by funext b; exact propext (h2 b)
      rw [this]; exact hs
  · intro k q k' q' hl hl' hne he b hb hb'
    have g1 : q ≠ .gone := by rintro rfl; exact hb.1 hl
    have g2 : q' ≠ .gone := by rintro rfl; exact hb'.1 hl'
    exact t.sat.apart (key hl g1).1 (key hl' g2).1 hne he b hb.2 hb'.2
  · intro k q b hl hb
    have g1 : q ≠ .gone := by rintro rfl; exact hb.1 hl
    exact t.owns (key hl g1).1 hb.2

/-- Entry by entry: as it is, or given up. -/
def Weaker (post : Heap) : Heap → Prop
  | [] => True
  | (k, q) :: l => (look post k = some q ∨ (q = .gone ∧ ∃ q0, look post k = some q0)) ∧ Weaker post l
theorem Weaker.get {post : Heap} : ∀ {l : Heap}, Weaker post l → ∀ k q, look l k = some q → look post k = some q ∨ (q = .gone ∧ ∃ q0, look post k = some q0)
  | [], _, k, q, hl => by simp [lookN] at hl
  | (c, p) :: l, h, k, q, hl => by
    rw [look_cons] at hl
    split at hl
    · rename_i e; subst e; cases hl; exact h.1
    · exact Weaker.get h.2 k q hl
theorem Ctr.weakL {P : Program} {g : FuncId} {args : List AV} {R pre post post' : Heap} {n n' : Nat} {r : AV} (h : Ctr P g args R pre n n' r post) (hp : Weaker post post') (hdom : domB pre post' = true) : Ctr P g args R pre n n' r post' :=
  h.weak hp.get hdom
theorem Weaker.keep {post : Heap} {k : Nat} {q : Res} {l : Heap} (h : look post k = some q) (t : Weaker post l) : Weaker post ((k, q) :: l) := ⟨.inl h, t⟩
theorem Weaker.drop {post : Heap} {k : Nat} {q0 : Res} {l : Heap} (h : look post k = some q0) (t : Weaker post l) : Weaker post ((k, .gone) :: l) := ⟨.inr ⟨rfl, q0, h⟩, t⟩

def orOv (a b : Ov) : Ov := fun g vs pre R n => match a g vs pre R n with
  | some r => some r
  | none => b g vs pre R n
theorem orOv_ok {P : Program} {a b : Ov} (ha : OvOK P a) (hb : OvOK P b) : OvOK P (orOv a b) := by
  intro g vs pre R n v post n' h
  unfold orOv at h
  split at h
  · rename_i r hr; cases h; exact ha hr
  · exact hb h

theorem excl_row {e z : Nat} {cs : List AV} {c : Option Nat} : (Res.row e z cs c).excl = true := rfl

/-- slices.Insert of one pair of texts, as an override: g is the function, e the element's type. -/
def insOv (f e : Nat) : Ov := fun g vs pre R n => match Nat.beq g f with
  | false => none
  | true => match vs with
    | [.sv h 2 0 L none, .int .i64 (.ofNat i), .sv hv 2 0 1 (some 1)] => match look pre h, look pre hv with
      | some (.row e1 2 cs none), some (.row e2 2 [.str k, .str v] (some 1)) =>
        match Nat.beq e1 e && (Nat.ble i L && (allR cs bareA && (Nat.beq (lenR cs) (Nat.mul L 2) && (Nat.ble (Nat.mul (Nat.add L 1) 2) room && (Nat.blt h n && (Nat.blt hv n && (!(Nat.beq h hv) && (roB R && (allR pre exB && domB pre [(h, .gone), (n, .gone), (hv, .gone)]))))))))) with
        | true => some (.sv n 2 0 (Nat.add L 1) none, [(h, .gone), (n, .row e 2 (appR (takeR (Nat.mul i 2) cs) (.str k :: .str v :: dropR (Nat.mul i 2) cs)) none), (hv, .row e2 2 [.str k, .str v] (some 1))], Nat.add n 1)
        | false => none
      | _, _ => none
    | _ => none

/-- What slices.Insert does. -/
def InsSpec (P : Program) (f e : Nat) : Prop := ∀ {cs : List AV} {L e2 i : Nat} {k v : ByteArray}, cs.all bareA = true → cs.length = L * 2 → i ≤ L → (L + 1) * 2 ≤ room →
  Ctr P f [.sv 0 2 0 L none, .int .i64 i, .sv 1 2 0 1 (some 1)] [] [(0, .row e 2 cs none), (1, .row e2 2 [.str k, .str v] (some 1))] 2 3 (.sv 2 2 0 (L + 1) none)
    [(0, .gone), (2, .row e 2 (cs.take (i * 2) ++ [.str k, .str v] ++ cs.drop (i * 2)) none), (1, .row e2 2 [.str k, .str v] (some 1))]

theorem insOv_ok {P : Program} {f e : Nat} (hs : InsSpec P f e) : OvOK P (insOv f e) := by
  intro g vs pre R n v post n' h
  unfold insOv at h
  split at h
  · cases h
  · rename_i hg
    have hg := Nat.eq_of_beq_eq_true hg
    subst hg
    split at h
    · rename_i h0 L i hv
      split at h
      · rename_i e1 cs e2 k w hl1 hl2
        split at h
        · rename_i hb
          simp only [Bool.and_eq_true, Bool.not_eq_true', allR_eq, lenR_eq] at hb
          obtain ⟨b1, b2, b3, b4, b5, b6, b7, b8, b9, b10, b11⟩ := hb
          have b1 := Nat.eq_of_beq_eq_true b1
          subst b1
          have b2 := Nat.le_of_ble_eq_true b2
          have b4 : cs.length = L * 2 := Nat.eq_of_beq_eq_true b4
          have b5 : (L + 1) * 2 ≤ room := Nat.le_of_ble_eq_true b5
          have b8 : h0 ≠ hv := fun e => by rw [e, Nat.beq_refl] at b8; cases b8
          have b6 : h0 < n := Nat.le_of_ble_eq_true b6
          have b7 : hv < n := Nat.le_of_ble_eq_true b7
          simp only [Option.some.injEq, Prod.mk.injEq] at h
          obtain ⟨rfl, rfl, rfl⟩ := h
          have c0 := (hs (e2 := e2) (i := i) (k := k) (v := w) b3 b4 b2 b5).ren (N := n) [h0, hv] (by
            simp only [callB, nodupB, List.length_cons, List.length_nil, List.any_cons, List.any_nil, Bool.or_false, List.all_cons, List.all_nil, Bool.and_true, Bool.and_eq_true, Bool.not_eq_true', Nat.blt_eq]
            exact ⟨rfl, ⟨by rw [beqD]; simpa using b8, trivial⟩, b6, b7⟩)
          have s0 : sg [h0, hv] n 0 = h0 := rfl
          have s1 : sg [h0, hv] n 1 = hv := rfl
          have s2 : sg [h0, hv] n 2 = n := rfl
          simp only [renL, renA, renH, renR, s0, s1, s2, renL_app, bare_ren b3, bare_ren (bare_take _ b3), bare_ren (bare_drop _ b3)] at c0
          have c1 := c0.frame (R' := R) (pre' := pre) (fun k q hl => by
              have := (roB_all R) ▸ b9
              have := List.all_eq_true.1 this _ (look_mem hl)
              simpa using this)
            (fun k q hl => by
              simp only [look_cons, lookN] at hl
              split at hl
              · cases hl; rfl
              · split at hl
                · cases hl; rfl
                · cases hl) (fun k q hl => by simp [lookN] at hl)
            (fun k q hl => by
              rw [look_append]
              simp only [look_cons, lookN] at hl
              split at hl
              · rename_i e; subst e; rw [hl1]; simpa using hl
              · split at hl
                · rename_i e; subst e; rw [hl2]; simpa using hl
                · cases hl)
          have hd : domB pre [(h0, Res.gone), (n, .row e1 2 (cs.take (i * 2) ++ [.str k, .str w] ++ cs.drop (i * 2)) none), (hv, .row e2 2 [.str k, .str w] (some 1))] = true := b11
          have c2 := c1.weak (post' := [(h0, Res.gone), (n, .row e1 2 (cs.take (i * 2) ++ [.str k, .str w] ++ cs.drop (i * 2)) none), (hv, .row e2 2 [.str k, .str w] (some 1))]) (fun k q hl => .inl (by rw [look_append, hl]; rfl)) hd
          have hfin : appR (takeR (Nat.mul i 2) cs) (AV.str k :: AV.str w :: dropR (Nat.mul i 2) cs) = cs.take (i * 2) ++ [.str k, .str w] ++ cs.drop (i * 2) := by
            simp only [appR_eq, takeR_eq, dropR_eq, List.append_assoc, List.cons_append, List.nil_append]; rfl
          rw [hfin]
          exact c2
        · cases h
      · cases h
    · cases h

/-- slices.Delete of one pair, as an override. -/
def delOv (f e : Nat) : Ov := fun g vs pre R n => match Nat.beq g f with
  | false => none
  | true => match vs with
    | [.sv h 2 0 L none, .int .i64 (.ofNat i), .int .i64 (.ofNat j)] => match look pre h with
      | some (.row e1 2 cs none) =>
        match Nat.beq e1 e && (Nat.beq j (Nat.add i 1) && (Nat.blt i L && (allR cs bareA && (Nat.beq (lenR cs) (Nat.mul L 2) && (Nat.ble (Nat.mul L 2) room && (Nat.blt h n && (roB R && (allR pre exB && domB pre [(h, .gone), (n, .gone)])))))))) with
        | true => some (.sv n 2 0 (Nat.sub L 1) none, [(h, .gone), (n, .row e 2 (appR (takeR (Nat.mul i 2) cs) (dropR (Nat.mul j 2) cs)) none)], Nat.add n 1)
        | false => none
      | _ => none
    | _ => none

def DelSpec (P : Program) (f e : Nat) : Prop := ∀ {cs : List AV} {L i : Nat}, cs.all bareA = true → cs.length = L * 2 → i < L → L * 2 ≤ room →
  Ctr P f [.sv 0 2 0 L none, .int .i64 i, .int .i64 ((i + 1 : Nat) : Int)] [] [(0, .row e 2 cs none)] 1 2 (.sv 1 2 0 (L - 1) none) [(0, .gone), (1, .row e 2 (cs.take (i * 2) ++ cs.drop ((i + 1) * 2)) none)]

theorem delOv_ok {P : Program} {f e : Nat} (hs : DelSpec P f e) : OvOK P (delOv f e) := by
  intro g vs pre R n v post n' h
  unfold delOv at h
  split at h
  · cases h
  · rename_i hg
    have hg := Nat.eq_of_beq_eq_true hg
    subst hg
    split at h
    · rename_i h0 L i j
      split at h
      · rename_i e1 cs hl1
        split at h
        · rename_i hb
          simp only [Bool.and_eq_true, allR_eq, lenR_eq] at hb
          obtain ⟨b1, bj, b2, b3, b4, b5, b6, b9, b10, b11⟩ := hb
          have b1 := Nat.eq_of_beq_eq_true b1
          subst b1
          have bj : j = i + 1 := Nat.eq_of_beq_eq_true bj
          subst bj
          have b2 : i < L := Nat.le_of_ble_eq_true b2
          have b4 : cs.length = L * 2 := Nat.eq_of_beq_eq_true b4
          have b5 : L * 2 ≤ room := Nat.le_of_ble_eq_true b5
          have b6 : h0 < n := Nat.le_of_ble_eq_true b6
          simp only [Option.some.injEq, Prod.mk.injEq] at h
          obtain ⟨rfl, rfl, rfl⟩ := h
          have c0 := (hs b3 b4 b2 b5).ren (N := n) [h0] (by
            simp only [callB, nodupB, List.length_cons, List.length_nil, List.any_nil, List.all_cons, List.all_nil, Bool.and_true, Bool.and_eq_true, Bool.not_eq_true', Nat.blt_eq]
            exact ⟨rfl, trivial, b6⟩)
          have s0 : sg [h0] n 0 = h0 := rfl
          have s1 : sg [h0] n 1 = n := rfl
          simp only [renL, renA, renH, renR, s0, s1, renL_app, bare_ren b3, bare_ren (bare_take _ b3), bare_ren (bare_drop _ b3)] at c0
          have c1 := c0.frame (R' := R) (pre' := pre) (fun k q hl => by
              have := (roB_all R) ▸ b9
              have := List.all_eq_true.1 this _ (look_mem hl)
              simpa using this)
            (fun k q hl => by
              simp only [look_cons, lookN] at hl
              split at hl
              · cases hl; rfl
              · cases hl) (fun k q hl => by simp [lookN] at hl)
            (fun k q hl => by
              rw [look_append]
              simp only [look_cons, lookN] at hl
              split at hl
              · rename_i e; subst e; rw [hl1]; simpa using hl
              · cases hl)
          have hd : domB pre [(h0, Res.gone), (n, .row e1 2 (cs.take (i * 2) ++ cs.drop ((i + 1) * 2)) none)] = true := b11
          have c2 := c1.weak (post' := [(h0, Res.gone), (n, .row e1 2 (cs.take (i * 2) ++ cs.drop ((i + 1) * 2)) none)]) (fun k q hl => .inl (by rw [look_append, hl]; rfl)) hd
          have hfin : appR (takeR (Nat.mul i 2) cs) (dropR (Nat.mul (i + 1) 2) cs) = cs.take (i * 2) ++ cs.drop ((i + 1) * 2) := by
            simp only [appR_eq, takeR_eq, dropR_eq]; rfl
          rw [hfin]
          exact c2
        · cases h
      · cases h
    · cases h

end
end Go.SX
