/- SX, part N: loops, cuts, and what may be forgotten. -/
import Derived.Test.YthmiaipampdegaaGreatDoorSXM
import Derived.Deep.LoopGhost
import Derived.LoopN
namespace Go.SX
noncomputable section

/-- Other numbers for a few handles. -/
def asg (σ : List (Nat × Nat)) (h : Nat) : Nat :=
  match look σ h with
  | some k => k
  | none => h

/-- These slots hold these values, under other numbers. -/
def HasFr (π : Nat → Nat) (s : Fr) : Fr → Prop
  | [] => True
  | (t, v) :: l => look s t = some (renA π v) ∧ HasFr π s l

theorem HasFr.get {π : Nat → Nat} {s : Fr} : ∀ {l : Fr}, HasFr π s l → ∀ {t v}, look l t = some v → look s t = some (renA π v)
  | [], _, t, v, h => by simp [lookN, lookC] at h
  | (k, u) :: l, ⟨h1, h2⟩, t, v, h => by
    rw [look_cons] at h
    split at h
    · rename_i e; subst e; cases h; exact h1
    · exact HasFr.get h2 h

def okFr (N : Nat) (fr : Fr) : Bool := fr.all fun p => okA N p.2

/-- What is known of s is at least this: these slots, this heap, and no handle from N on. -/
structure Incl (σ : List (Nat × Nat)) (N : Nat) (fr : Fr) (H : Heap) (s : St) : Prop where
  val : HasFr (asg σ) s.fr fr
  heap : HasAll s.H (asg σ) H
  ok : (okFr N fr && (okH N H && (nodupB (H.map fun p => asg σ p.1) && (Nat.ble s.b N && σ.all fun p => Nat.ble s.b p.1)))) = true
  df : s.df = []

theorem nodupB_map {f : Nat → Nat} : ∀ {l : List Nat}, nodupB (l.map f) = true → ∀ a ∈ l, ∀ b ∈ l, f a = f b → a = b
  | [], _, a, ha, _, _, _ => by cases ha
  | x :: l, h, a, ha, b, hb, e => by
    simp only [List.map_cons, nodupB, Bool.and_eq_true, Bool.not_eq_true'] at h
    have key : ∀ y ∈ l, f x ≠ f y := by
      intro y hy e
      have : f x ∈ l.map f := List.mem_map.2 ⟨y, hy, e.symm⟩
      rw [any_beq this] at h
      cases h.1
    rcases List.mem_cons.1 ha with ea | ha' <;> rcases List.mem_cons.1 hb with eb | hb'
    · rw [ea, eb]
    · rw [ea] at e; exact absurd e (key _ hb')
    · rw [eb] at e; exact absurd e.symm (key _ ha')
    · exact nodupB_map h.2 a ha' b hb' e

/-- From a state that is known to a state of which less is known. -/
theorem Incl.sats {σ : List (Nat × Nat)} {N : Nat} {fr : Fr} {H : Heap} {s : St} (h : Incl σ N fr H s) {env env0 : Env} {F : Foot} {a : Act} {w w0 : World} {X Y : Nat → Prop} {log : List (List Nat × List Nat)}
    (hs : SatS env s F a w) (hsi : Since X Y w0 s.H F w) (hbase : ∀ h, h < s.b → env h = env0 h) :
    ∃ env' F', SatS env' ⟨fr, H, N, s.sz, s.df, log, s.b⟩ F' a w ∧ Since X Y w0 H F' w ∧ (∀ h, h < s.b → env' h = env0 h) ∧ s.b ≤ N := by
  obtain ⟨hv, hh, hok, hdf⟩ := h
  simp only [Bool.and_eq_true] at hok
  obtain ⟨o1, o2, o3, o4, o5⟩ := hok
  have o4 := Nat.le_of_ble_eq_true o4
  let env' : Env := fun k => if k < N then env (asg σ k) else none
  have hE : ∀ k, k < N → env' k = env (asg σ k) := fun k hk => by simp [env', hk]
  have hlook : ∀ {k : Nat} {r : Res}, look H k = some r → k < N ∧ okR N r = true ∧ look s.H (asg σ k) = some (renR (asg σ) r) := by
    intro k r hl
    obtain ⟨g1, g2⟩ := okH_look o2 hl
    exact ⟨g1, g2, hh.sub hl⟩
  have hinj : ∀ {k k' : Nat} {r r' : Res}, look H k = some r → look H k' = some r' → asg σ k = asg σ k' → k = k' := by
    intro k k' r r' hl hl' e
    have e1 : H.map (fun p => asg σ p.1) = (H.map (·.1)).map (asg σ) := by simp
    rw [e1] at o3
    exact nodupB_map o3 _ (look_map_dom hl) _ (look_map_dom hl') e
  refine ⟨env', fun k => F (asg σ k), ⟨hs.size, ?_, ?_, ⟨?_, ?_⟩, ?_⟩, ⟨hsi.frame, ?_⟩, ?_, o4⟩
  · have := hs.defers
    simp only [hdf, DenD] at this ⊢
    exact this
  · intro t v hl
    obtain ⟨x, hx, hd⟩ := hs.val t _ (hv.get hl)
    have := List.all_eq_true.1 o1 _ (look_mem hl)
    exact ⟨x, hx, den_ok hE this (den_ren.1 hd)⟩
  · intro k r hl
    obtain ⟨g1, g2, g3⟩ := hlook hl
    obtain ⟨v, hv', hsat⟩ := hs.heap.sat g3
    exact ⟨v, by rw [hE k g1]; exact hv', sat_ok hE g2 (sat_ren.1 hsat)⟩
  · intro k r k' r' hl hl' hne he b
    obtain ⟨_, _, g3⟩ := hlook hl
    obtain ⟨_, _, g3'⟩ := hlook hl'
    exact hs.heap.apart g3 g3' (fun e => hne (hinj hl hl' e)) (by rw [excl_ren]; exact he) b
  · intro k hk; simp only at hk; simp only [env']; rw [if_neg (by omega)]
  · intro k r b hl hb
    obtain ⟨_, _, g3⟩ := hlook hl
    have := hsi.own _ _ b g3 hb
    rw [excl_ren] at this; exact this
  · intro k hk
    have hk' : asg σ k = k := by
      unfold asg
      cases hq : look σ k with
      | none => rfl
      | some j =>
        have := List.all_eq_true.1 o5 _ (look_mem hq)
        have := Nat.le_of_ble_eq_true this
        simp only at this; omega
    rw [hE k (by omega), hk']; exact hbase k hk

/-- What stands at the end of a round: the relation at a smaller number. -/
structure Again {α : Type} (I : α → Fr × Heap) (μ : α → Nat) (N : Nat) (a : α) (s : St) : Prop where
  ex : ∃ (a' : α) (σ : List (Nat × Nat)), μ a' < μ a ∧ Incl σ N (I a').1 (I a').2 s

def loopQ {α : Type} (I : α → Fr × Heap) (μ : α → Nat) (N : Nat) (a : α) (Q : Exit → St → Prop) (e : Exit) (s : St) : Prop :=
  match e with
  | .normal => Again I μ N a s
  | e => Q e s

/-- A loop: I says of each a what is known at a round's head; every round lowers μ. -/
theorem loop_rule {P : Program} {T : Tab} (hT : TabOK P T) (hm : P.follows .mixedOrders = true) {body : Code} {Q : Exit → St → Prop} {fr : Fr} {H : Heap} {n sz : Nat} {log : List (List Nat × List Nat)} {b : Nat} {α : Type}
    (I : α → Fr × Heap) (μ : α → Nat) (N : Nat) (a0 : α) (σ : List (Nat × Nat)) (h0 : Incl σ N (I a0).1 (I a0).2 ⟨fr, H, n, sz, [], log, b⟩)
    (hs : ∀ a, vcCode (Ask P) T body (loopQ I μ N a Q) ⟨(I a).1, (I a).2, N, sz, [], [], b⟩) : LoopStop P none body Q ⟨fr, H, n, sz, [], log, b⟩ := by
  intro hst X Y w0 env0 ro Qc env F a w hro hb hbase hs0 hsi hq
  refine wpIn_loop_ghost (fun k a' w' => ∃ al, μ al = k ∧ ∃ env' F', SatS env' ⟨(I al).1, (I al).2, N, sz, [], [], b⟩ F' a' w' ∧ Since X Y w0 (I al).2 F' w' ∧ (∀ h, h < b → env' h = env0 h) ∧ b ≤ N) (μ a0) ?_ ?_
  · obtain ⟨env', F', g1, g2, g3, g4⟩ := h0.sats (log := []) hs0 hsi hbase
    exact ⟨a0, rfl, env', F', g1, g2, g3, g4⟩
  · rintro k a' w' ⟨al, rfl, env', F', g1, g2, g3, g4⟩
    refine vcCode_sound hT hm body (hs al) hst X Y w0 env0 ro _ env' F' a' w' hro g4 g3 g1 g2 ?_
    intro e s' env2 F2 a2 w2 hQ k1 k2 k3 k4 k5 k6
    cases e with
    | normal =>
      obtain ⟨al', σ', hlt, hin⟩ := hQ.ex
      obtain ⟨env3, F3, q1, q2, q3, q4⟩ := hin.sats (log := []) k5 k6 k4
      simp only at k1 k2
      rw [hin.df, k1, k2] at q1
      rw [k1] at q3 q4
      exact ⟨μ al', hlt, al', rfl, env3, F3, q1, q2, q3, q4⟩
    | _ => exact hq _ _ _ _ _ _ hQ k1 k2 k3 k4 k5 k6

/-- What is known from here on: no more than this. -/
theorem forget {P : Program} {T : Tab} {c : Code} {Q : Exit → St → Prop} {fr fr' : Fr} {H H' : Heap} {n sz : Nat} {log : List (List Nat × List Nat)} {b : Nat}
    (hT : TabOK P T) (hm : P.follows .mixedOrders = true) (hst : staticC c = true) (σ : List (Nat × Nat)) (N : Nat) (h0 : Incl σ N fr' H' ⟨fr, H, n, sz, [], log, b⟩)
    (h : vcCode (Ask P) T c Q ⟨fr', H', N, sz, [], [], b⟩) : Sem P none c Q ⟨fr, H, n, sz, [], log, b⟩ := by
  intro X Y w0 env0 ro Qc env F a w hro hb hbase hs0 hsi hq
  obtain ⟨env', F', g1, g2, g3, g4⟩ := h0.sats (log := []) hs0 hsi hbase
  exact vcCode_sound hT hm c h hst X Y w0 env0 ro Qc env' F' a w hro g4 g3 g1 g2 hq

/-- At most so many rounds, each walked. -/
def rounds {α : Type} (A : Ans α) (vb : (Exit → St → α) → St → α) (Q : Exit → St → α) : Nat → St → α
  | 0, _ => A.bad
  | n + 1, s => vb (seqQ (rounds A vb Q n) Q) s

theorem rounds_sound {P : Program} {α : Type} {A : Ans α} {tr : α → Prop} (hbad : ¬ tr A.bad) {vb : (Exit → St → α) → St → α} {body : Code} (hv : ∀ {Q s}, tr (vb Q s) → Sem P none body (fun e s => tr (Q e s)) s)
    {Q : Exit → St → α} {s : St} (n : Nat) (h : tr (rounds A vb Q n s)) : Sem P none (.loop body) (fun e s => tr (Q e s)) s := by
  intro X Y w0 env0 ro Qc env F a w hro hb hbase hs hsi hq
  refine wpIn_loop_rounds n ?_
  have key : ∀ (n : Nat) (s : St) (env : Env) (F : Foot) (a : Act) (w : World), tr (rounds A vb Q n s) → RoAt env0 s.b none ro → (s.b ≤ s.n) → (∀ k, k < s.b → env k = env0 k) → SatS env s F a w → Since X Y w0 s.H F w →
      (∀ e s' env' F' a' w', tr (Q e s') → s'.b = s.b → s'.sz = s.sz → s'.b ≤ s'.n → (∀ k, k < s'.b → env' k = env0 k) → SatS env' s' F' a' w' → Since X Y w0 s'.H F' w' → Qc e a' w') → Code.roundsIn (Wd ro) 0 P body Qc n a w := by
    intro n
    induction n with
    | zero => intro s env F a w h; exact (hbad h).elim
    | succ n ih =>
      intro s env F a w h hro hb hbase hs hsi hq
      rw [roundsIn_succ]
      refine hv h X Y w0 env0 ro _ env F a w hro hb hbase hs hsi ?_
      intro e s' env' F' a' w' hQ h1 h2 h3 h4 h5 h6
      cases e with
      | normal => exact ih s' env' F' a' w' hQ (by rw [h1]; exact hro) h3 h4 h5 h6 fun e s2 env2 F2 a2 w2 q k1 k2 k3 k4 k5 k6 => hq _ _ _ _ _ _ q (k1.trans h1) (k2.trans h2) k3 k4 k5 k6
      | _ => exact hq _ _ _ _ _ _ hQ h1 h2 h3 h4 h5 h6
  exact key n s env F a w h hro hb hbase hs hsi hq

theorem loop_unroll {P : Program} {T : Tab} (hT : TabOK P T) (hm : P.follows .mixedOrders = true) {body : Code} {Q : Exit → St → Prop} {s : St} (n : Nat) (h : rounds (Ask P) (vcCode (Ask P) T body) Q n s) : LoopStop P none body Q s :=
  fun hst => rounds_sound (A := Ask P) (tr := fun p => p) (fun h => h) (fun h => vcCode_sound hT hm body h hst) n h

end
end Go.SX
