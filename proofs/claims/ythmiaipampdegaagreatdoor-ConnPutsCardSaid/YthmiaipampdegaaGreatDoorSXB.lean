/- SX, part B: states, what one operation may do (Triple), and regions: in the text's order, and in whatever order their edges allow. -/
import Derived.Test.YthmiaipampdegaaGreatDoorSXA
import Derived.Test.YthmiaipampdegaaGreatDoorSXW
import Derived.Tactics
namespace Go.SX
noncomputable section

abbrev Fr := List (Nat × AV)

/-- A deferred call; the mark of a range over a function. -/
inductive Df where
  | call (f : FuncId) (vs : List AV)
  | mark (h : Nat)

structure St where
  fr : Fr
  H : Heap
  n : Nat
  sz : Nat
  df : List Df
  log : List (List Nat × List Nat)
  b : Nat

def DenD (env : Env) : List Df → List Deferred → Prop
  | [], ds => ds = []
  | .call f l :: r, ds => ∃ d t, ds = d :: t ∧ (∃ cap xs, d = { target := .fn (.func f) cap, args := xs } ∧ Dens env l (xs ++ cap).toList) ∧ DenD env r t
  | .mark h :: r, ds => ∃ d t, ds = d :: t ∧ (∃ b, d = { target := .collected b, args := #[] } ∧ env h = some (.pointer (some ⟨b, 0, none⟩))) ∧ DenD env r t

theorem DenD.mono {e e' : Env} (hle : e.le e') : ∀ {l : List Df} {ds : List Deferred}, DenD e l ds → DenD e' l ds
  | [], _, h => h
  | .call _ l :: _, _, ⟨d, t, h1, ⟨c, xs, h2, h3⟩, h4⟩ => ⟨d, t, h1, ⟨c, xs, h2, Dens.mono hle l h3⟩, DenD.mono hle h4⟩
  | .mark _ :: _, _, ⟨d, t, h1, ⟨b, h2, h3⟩, h4⟩ => ⟨d, t, h1, ⟨b, h2, hle _ _ h3⟩, DenD.mono hle h4⟩

/-- The temporaries. -/
def DenF (env : Env) (fr : Fr) (a : Act) : Prop := ∀ t v, look fr t = some v → ∃ x, a.tmps[t]? = some x ∧ Den env v x

structure SatS (env : Env) (s : St) (F : Foot) (a : Act) (w : World) : Prop where
  size : a.tmps.size = s.sz
  defers : DenD env s.df a.defers
  val : DenF env s.fr a
  heap : SatH env s.H F w
  fresh : ∀ h, s.n ≤ h → env h = none

/-- Since w0 nothing has turned but X's blocks; what is owned now was X's then, or is new; what is read may be Y's, too. -/
structure Since (X Y : Nat → Prop) (w0 : World) (H : Heap) (F : Foot) (w : World) : Prop where
  frame : FrameW X w0 w
  own : ∀ h r b, look H h = some r → F h b → X b ∨ w0.heap.size ≤ b ∨ (r.excl = false ∧ Y b)

theorem Since.owned {X Y : Nat → Prop} {w0 w : World} {H : Heap} {F : Foot} (s : Since X Y w0 H F w) : ∀ b, Owned H F b → X b ∨ w0.heap.size ≤ b := by
  rintro b ⟨h, r, h1, h2, h3⟩
  rcases s.own h r b h1 h3 with h4 | h4 | ⟨h4, _⟩
  · exact .inl h4
  · exact .inr h4
  · rw [h2] at h4; cases h4

theorem Since.congr {X Y : Nat → Prop} {w0 w : World} {H H' : Heap} {F : Foot} (s : Since X Y w0 H F w) (hl : ∀ h, look H' h = look H h) : Since X Y w0 H' F w :=
  ⟨s.frame, fun h r b h1 h2 => s.own h r b ((hl _).symm.trans h1) h2⟩


/-- What an operation does: 'val' is what it yields, 'pre' becomes 'post', R is read. -/
def Triple (P : Program) (o : Oper) (fr : Fr) (R pre : Heap) (n n' : Nat) (val : AV) (post : Heap) : Prop :=
  ∀ (env : Env) (F : Foot) (a : Act) (w : World) (next : Act → World → Prop) (Q : Exit → Act → World → Prop),
    (∀ t ∈ opTmps o, ∀ v, look fr t = some v → ∃ x, a.tmps[t]? = some x ∧ Den env v x) →
    SatH env (pre ++ R) F w → (∀ h, n ≤ h → h < n' → env h = none) →
    (∀ env' F' x w', Turn n n' R pre post env F w env' F' w' → Den env' val x → next (a.put o.dst x) w') →
    o.wp P a w next Q

theorem put_defers {a : Act} {dst : Option Tmp} {x : Value} : (a.put dst x).defers = a.defers := by cases dst <;> rfl

/-- An operation with a triple is no 'defer'. -/
theorem Triple.nd {P : Program} {o : Oper} {fr : Fr} {R pre post : Heap} {n n' : Nat} {val : AV} (t : Triple P o fr R pre n n' val post) {env : Env} {F : Foot} {a : Act} {w : World}
    (h1 : ∀ t ∈ opTmps o, ∀ v, look fr t = some v → ∃ x, a.tmps[t]? = some x ∧ Den env v x) (h2 : SatH env (pre ++ R) F w) (h3 : ∀ h, n ≤ h → h < n' → env h = none) : ∀ c, o.op ≠ .defer c := by
  intro c ho
  have h := t env F a w (fun a' _ => a'.defers = a.defers) (fun _ _ _ => False) h1 h2 h3 (fun _ _ _ _ _ _ => put_defers)
  unfold Oper.wp at h
  simp only [execOp, ho, Sem.run_bind] at h
  cases hr : (resolve a.eval c o.type).run P w with
  | ok d w' =>
    simp only [hr, Result.andThen_ok, Sem.run_pure, Oper.upon] at h
    rw [put_defers] at h
    have := congrArg List.length h
    simp at this
  | halt x w' =>
    simp only [hr, Result.andThen] at h
    cases x <;> simp only [Oper.upon] at h

/-- What an operation may do in whatever frame. -/
def TripleY (P : Program) (o : Oper) (fr : Fr) (R pre : Heap) (n n' : Nat) (val : AV) (post : Heap) : Prop :=
  ∀ (ro : Option Nat) (env : Env) (F : Foot) (a : Act) (w : World) (next : Act → World → Prop) (Q : Exit → Act → World → Prop),
    (∀ t ∈ opTmps o, ∀ v, look fr t = some v → ∃ x, a.tmps[t]? = some x ∧ Den env v x) →
    SatH env (pre ++ R) F w → (∀ h, n ≤ h → h < n' → env h = none) →
    (∀ env' F' x w', Turn n n' R pre post env F w env' F' w' → Den env' val x → next (a.put o.dst x) w') →
    o.wpIn (Wd ro) 0 P a w next Q

theorem Triple.y {P : Program} {o : Oper} {fr : Fr} {R pre post : Heap} {n n' : Nat} {val : AV} (t : Triple P o fr R pre n n' val post) : TripleY P o fr R pre n n' val post :=
  fun _ env F a w next Q h1 h2 h3 h4 => op_wd (.inl (t.nd h1 h2 h3)) (t env F a w next Q h1 h2 h3 h4)

structure Rec where
  run : Bool
  R : Heap
  pre : Heap
  post : Heap
  n : Nat
  n' : Nat
  val : AV
  rd : List Nat
  wr : List Nat

def upF (o : Oper) (r : Rec) : Fr := match o.dst with | some d => [(d, r.val)] | none => []

def St.app (s : St) (o : Oper) (r : Rec) : St := { s with fr := upF o r ++ s.fr, H := r.post ++ s.H, n := r.n', log := (r.rd, r.wr) :: s.log }

def rawBool : Value → Option Bool
  | .bool b => some b
  | _ => none

/-- Whether an operation is wanted, as far as the frame tells. -/
def guardV (all : Array Oper) (fr : Fr) (o : Oper) : Option Bool :=
  match o.guard with
  | none => some true
  | some (j, want) =>
    match (all[j]?).bind (·.dst) with
    | none => some false
    | some d => match look fr d with
      | some (.bool b) => some (b == want)
      | some (.raw v) => some (rawBool v == some want)
      | _ => none

structure RecOK (P : Program) (all : Array Oper) (sz : Nat) (o : Oper) (fr : Fr) (H : Heap) (r : Rec) : Prop where
  dst : ∀ d, o.dst = some d → d < sz
  guard : guardV all fr o = some r.run
  nle : r.n ≤ r.n'
  skip : r.run = false → r.val = .raw undef ∧ r.post = []
  op : r.run = true → TripleY P o fr r.R r.pre r.n r.n' r.val r.post
  subR : r.run = true → Sub r.R H
  subp : r.run = true → Sub r.pre H
  dom : ∀ h x, look r.pre h = some x → ∃ x', look r.post h = some x'
  rds : ∀ h x, look r.R h = some x → h ∈ r.rd
  wrs : ∀ h x, look r.post h = some x → h ∈ r.wr

theorem tmps_put {a : Act} {dst : Option Tmp} {x : Value} : (a.put dst x).tmps.size = a.tmps.size := by
  cases dst <;> simp [Act.put]

theorem guard_ok {all : Array Oper} {env : Env} {fr : Fr} {o : Oper} {a : Act} {g : Bool}
    (hv : ∀ d, (∃ j w, o.guard = some (j, w) ∧ (all[j]?).bind (·.dst) = some d) → ∀ v, look fr d = some v → ∃ x, a.tmps[d]? = some x ∧ Den env v x)
    (h : guardV all fr o = some g) : Region.wanted o (yielded all a.tmps) = g := by
  unfold guardV at h
  unfold Region.wanted
  cases hg : o.guard with
  | none => rw [hg] at h; simpa using h
  | some p =>
    obtain ⟨j, want⟩ := p
    rw [hg] at h
    simp only at h ⊢
    unfold yielded
    cases hd : (all[j]?).bind (·.dst) with
    | none => rw [hd] at h; simp at h; simp [h]
    | some d =>
      rw [hd] at h
      simp only [Option.bind_some] at h ⊢
      cases hl : look fr d with
      | none => rw [hl] at h; simp at h
      | some v =>
        rw [hl] at h
        obtain ⟨x, hx, hden⟩ := hv d ⟨j, want, hg, hd⟩ v hl
        rw [hx]
        cases v <;> simp at h
        · simp only [Den] at hden; subst hden; simpa using h
        · simp only [Den] at hden; subst hden
          rw [← h]
          cases x <;> rfl

/-- The state behind one operation. -/
theorem step_ok {P : Program} {ro : Option Nat} {all : Array Oper} {sz : Nat} {o : Oper} {r : Rec} {fr fr' : Fr} {H H' : Heap} {env : Env} {F : Foot} {a : Act} {w w0 : World} {X Y : Nat → Prop}
    {K : Act → World → Prop} {Q : Exit → Act → World → Prop} {df : List Df}
    (hr : RecOK P all sz o fr H r)
    (hsz : a.tmps.size = sz) (hdf : DenD env df a.defers) (hval : DenF env fr' a) (hheap : SatH env H' F w) (hs : Since X Y w0 H' F w)
    (hT : ∀ t, (t ∈ opTmps o ∨ ∃ j w, o.guard = some (j, w) ∧ (all[j]?).bind (·.dst) = some t) → look fr' t = look fr t)
    (hH : ∀ h, (h ∈ r.rd ∨ h ∈ r.wr) → look H h ≠ none → look H' h = look H h)
    (hfresh : ∀ h, r.n ≤ h → h < r.n' → env h = none)
    (hK : ∀ env' F' a' w', env.le env' → (∀ h, ¬ (r.n ≤ h ∧ h < r.n') → env' h = env h) → a'.tmps.size = sz → DenD env' df a'.defers → DenF env' (upF o r ++ fr') a' →
      SatH env' (r.post ++ H') F' w' → Since X Y w0 (r.post ++ H') F' w' → K a' w') :
    if Region.wanted o (yielded all a.tmps) then o.wpIn (Wd ro) 0 P a w K Q else (∀ f, o.about P w a.eval = some f → (Wd ro).fn f) ∧ K (a.put o.dst undef) w := by
  have hw : Region.wanted o (yielded all a.tmps) = r.run :=
    guard_ok (fun d hd v hl => hval d v ((hT d (.inr hd)).trans hl)) hr.guard
  have hput : ∀ {env' : Env} {x : Value}, env.le env' → Den env' r.val x → DenF env' (upF o r ++ fr') (a.put o.dst x) := by
    intro env' x hle hx t v hl
    cases hd : o.dst with
    | none =>
      have hl' : look fr' t = some v := by simpa [upF, hd] using hl
      obtain ⟨y, hy, hden⟩ := hval t v hl'
      exact ⟨y, by simpa [Act.put] using hy, Den.mono hle v hden⟩
    | some d =>
      simp only [upF, hd, List.singleton_append, look_cons] at hl
      have hlt := hr.dst d hd
      split at hl
      · rename_i he
        subst he
        cases hl
        exact ⟨x, by simp [Act.put, hsz, hlt], hx⟩
      · rename_i hne
        obtain ⟨y, hy, hden⟩ := hval t v hl
        exact ⟨y, by simpa [Act.put, Array.getElem?_setIfInBounds_ne hne] using hy, Den.mono hle v hden⟩
  have hdp : ∀ {x : Value}, (a.put o.dst x).defers = a.defers := by intro x; cases o.dst <;> rfl
  rw [hw]
  cases hrun : r.run with
  | false =>
    simp only [Bool.false_eq_true, if_false]
    obtain ⟨hv, hp⟩ := hr.skip hrun
    refine ⟨fun _ _ => trivial, ?_⟩
    refine hK env F _ w (Env.le.refl _) (fun _ _ => rfl) (by rw [tmps_put]; exact hsz) (by rw [hdp]; exact hdf) (hput (Env.le.refl _) ?_) ?_ ?_
    · rw [hv]; simp only [Den]
    · rw [hp]; exact hheap
    · rw [hp]; exact hs
  | true =>
    simp only [if_true]
    have hsubR : Sub r.R H' := fun h x hl => by
      have h1 := hr.subR hrun h x hl
      rw [hH h (.inl (hr.rds h x hl)) (by rw [h1]; simp)]; exact h1
    have hsubp : Sub r.pre H' := fun h x hl => by
      obtain ⟨x', hx'⟩ := hr.dom h x hl
      have h1 := hr.subp hrun h x hl
      rw [hH h (.inr (hr.wrs h x' hx')) (by rw [h1]; simp)]; exact h1
    have hneed : ∀ t ∈ opTmps o, ∀ v, look fr t = some v → ∃ x, a.tmps[t]? = some x ∧ Den env v x := fun t ht v hl => hval t v ((hT t (.inl ht)).trans hl)
    have hpart : SatH env (r.pre ++ r.R) F w := by
      refine hheap.part ?_
      intro h x hl
      rw [look_append] at hl
      cases hq : look r.pre h with
      | some y => rw [hq] at hl; simp at hl; subst hl; exact hsubp _ _ hq
      | none => rw [hq] at hl; simp at hl; exact hsubR _ _ hl
    refine hr.op hrun ro env F a w K Q hneed hpart hfresh ?_
    · intro env' F' x w' ht hx
      obtain ⟨F'', hs1, hs2⟩ := ht.whole hheap hsubR hsubp hr.dom
      refine hK env' F'' _ w' ht.le ht.only (by rw [tmps_put]; exact hsz) (by rw [hdp]; exact DenD.mono ht.le hdf) (hput ht.le hx) hs1 ⟨?_, ?_⟩
      · refine hs.frame.trans ht.frame ?_
        rintro b ⟨h, r0, h1, h2, h3⟩
        exact hs.owned b ⟨h, r0, hsubp _ _ h1, h2, h3⟩
      · intro h r0 b h1 h3
        rcases hs2 h1 h3 with ⟨h0, q0, g1, g2, g3⟩ | h4
        · rcases hs.own h0 q0 b g1 g2 with h5 | h5 | ⟨h5, h6⟩
          · exact .inl h5
          · exact .inr (.inl h5)
          · refine .inr (.inr ⟨?_, h6⟩)
            cases he : r0.excl with
            | false => rfl
            | true => rw [g3 he] at h5; cases h5
        · exact .inr (.inl (Nat.le_trans hs.frame.size h4))

/-- A run in the text's order. -/
inductive Run (P : Program) (all : Array Oper) : List Oper → St → List Rec → St → Prop
  | nil {s : St} : Run P all [] s [] s
  | cons {o : Oper} {l : List Oper} {s s' : St} {r : Rec} {rs : List Rec} (hr : RecOK P all s.sz o s.fr s.H r) (hn : r.n = s.n) (h : Run P all l (s.app o r) rs s') : Run P all (o :: l) s (r :: rs) s'

/-- What was known of the first n handles is known still. -/
structure Ext (n : Nat) (e e' : Env) : Prop where
  le : e.le e'
  old : ∀ h, h < n → e' h = e h

theorem Ext.refl (n : Nat) (e : Env) : Ext n e e := ⟨Env.le.refl _, fun _ _ => rfl⟩
theorem Ext.trans {n m : Nat} {a b c : Env} (h : Ext n a b) (k : Ext m b c) (hm : n ≤ m) : Ext n a c :=
  ⟨h.le.trans k.le, fun x hx => (k.old x (by omega)).trans (h.old x hx)⟩

theorem seq_sound {P : Program} {ro : Option Nat} {all : Array Oper} {Q : Exit → Act → World → Prop} {X Y : Nat → Prop} {w0 : World} {ops : List Oper} {s s' : St} {rs : List Rec} (h : Run P all ops s rs s') :
    ∀ {env : Env} {F : Foot} {a : Act} {w : World}, SatS env s F a w → Since X Y w0 s.H F w →
      (∀ env' F' a' w', Ext s.n env env' → SatS env' s' F' a' w' → Since X Y w0 s'.H F' w' → Q .normal a' w') → wpListIn (Wd ro) 0 P all Q ops a w := by
  induction h with
  | nil => intro env F a w hs hsi hq; exact hq env F a w (Ext.refl _ _) hs hsi
  | @cons o l s s' r rs hr hn h ih =>
    intro env F a w hs hsi hq
    refine wpListIn_step fun K hK => ?_
    refine step_ok hr hs.size hs.defers hs.val hs.heap hsi (fun _ _ => rfl) (fun _ _ _ => rfl) (fun h h1 _ => hs.fresh h (by omega)) ?_
    intro env' F' a' w' hle honly h1 h2 h3 h4 h5
    refine hK a' w' (ih (env := env') (F := F') ⟨h1, h2, h3, h4, ?_⟩ h5 (fun e F a w hle' => hq e F a w (Ext.trans ⟨hle, fun x hx => honly x (by omega)⟩ hle' (by have := hr.nle; simp only [St.app]; omega))))
    intro h hge
    simp only [St.app] at hge
    have := hr.nle
    rw [honly h (by omega)]; exact hs.fresh h (by omega)

end
end Go.SX
