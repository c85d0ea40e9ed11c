/- SX, part W: walks in the frame of a function, or of a round of a range over a function. -/
import Derived.OrdersIn
import Derived.TacticsIn
import Derived.LoopNIn
import Derived.Scope
import Derived.ScopeJumps
import Derived.Deep.LoopGhost
import Derived.DefersIn
namespace Go.SX
noncomputable section

/-- The fence that lets all in; the frame is a function's, or a round's. -/
def Wd (ro : Option Nat) : Fence := { Fence.wide with round := ro }

theorem wd_none : Wd none = Fence.wide := rfl
theorem wd_room (ro : Option Nat) (n : Nat) : (Wd ro).room n := fun _ h => by simp [Wd, Fence.wide] at h
theorem wd_fn (ro : Option Nat) (f : FuncId) : (Wd ro).fn f := trivial
theorem wd_fenced (P : Program) (ro : Option Nat) (m : Machine) : m.fenced P (Wd ro) := fenced_wide P m
theorem wd_depth (ro : Option Nat) : (Wd ro).depth.isSome = true → 1 ≤ 0 := fun h => by simp [Wd, Fence.wide] at h

theorem callsIn_wd {ro : Option Nat} {n : Nat} {P : Program} {f : FuncId} {args : Array Value} {w : World} {R : Ending → World → Prop} : CallsIn (Wd ro) n P f args w R ↔ Calls P f args w R :=
  (show CallsIn (Wd ro) n P f args w R ↔ CallsIn Fence.wide n P f args w R from Iff.rfl).trans callsIn_wide

theorem wp_wd {P : Program} {c : Code} {Q : Exit → Act → World → Prop} {a : Act} {w : World} : c.wpIn (Wd none) 0 P Q a w ↔ c.wp P Q a w := wpIn_wide

theorem rowsIn_wd {ro : Option Nat} {n : Nat} {P : Program} {row : String} {args : Array Value} {w : World} {R : Value → World → Prop} (h : Rows P row args w R) : RowsIn (Wd ro) n P row args w R := by
  intro c cs _
  obtain ⟨v, w', r, s⟩ := h c cs
  exact ⟨v, w', r, stepsIn_wide.2 s⟩

/-- What an operation does, it does in a round, too; 'defer' aside. -/
theorem op_wd {P : Program} {ro : Option Nat} {o : Oper} {a : Act} {w : World} {next : Act → World → Prop} {Q : Exit → Act → World → Prop} (hd : (∀ c, o.op ≠ .defer c) ∨ ro = none) (h : o.wp P a w next Q) : o.wpIn (Wd ro) 0 P a w next Q := by
  refine ⟨fun _ _ => trivial, ?_⟩
  have e : o.semAt (Wd ro).round a.eval = execOp a.eval o := by
    rcases hd with hd | rfl
    · exact Oper.semAt_eq _ _ o hd
    · rfl
  rw [e]
  unfold Oper.wp at h
  generalize (execOp a.eval o).run P w = r at *
  cases r with
  | ok x w' =>
    cases x <;> simp only [Oper.upon, Oper.uponIn] at h ⊢ <;>
      first
        | exact h
        | exact h.elim
        | exact ⟨wd_depth ro, callsIn_wd.2 h⟩
        | exact ⟨wd_depth ro, rowsIn_wd h⟩
  | halt x w' => cases x <;> simp only [Oper.upon, Oper.uponIn] at h ⊢ <;> exact h

section
variable {F : Fence} {n : Nat} {P : Program} {b : Frame} {a : Act} {k : List Item} {cs : List Frame} {w : World} {Q : Exit → Act → World → Prop}

theorem stepR_scope {c : Code} : step P (lone (b.atR a (.code (.scope c) :: k)) cs w) = .next (lone (b.atR a (.code c :: .inScope c :: k)) cs w) :=
  step_lone_go (by simp [stepG, stepG.exec, Frame.atR])
theorem stepR_inScope {c : Code} : step P (lone (b.atR a (.inScope c :: k)) cs w) = .next (lone (b.atR a k) cs w) :=
  step_lone_go (by simp [stepG, stepG.exec, Frame.atR])

theorem wpIn_scope_straight {c : Code} (h : c.wpIn F n P (Exit.noGoto Q) a w) : (Code.scope c).wpIn F n P Q a w := by
  intro b k cs hro hb hr
  obtain ⟨e, a₁, w₁, hq, harr⟩ := h b (.inScope c :: k) cs hro hb hr
  have h0 : (lone (b.atR a (.code (.scope c) :: k)) cs w).fenced P F := fenced_calm hb hr rfl
  cases e with
  | normal => exact ⟨.normal, a₁, w₁, hq, .head h0 stepR_scope (StepsIn.trans harr (.one (fenced_calm hb hr rfl) stepR_inScope))⟩
  | exit id =>
    refine ⟨.exit id, a₁, w₁, hq, fun k' hk => .head h0 stepR_scope (harr.1 k' (by simp [exitTo, hk])), fun hr' hk => ?_⟩
    obtain ⟨k₁, h1, h2⟩ := harr.2 hr' (by simp [exitTo, hk])
    exact ⟨k₁, h1, .head h0 stepR_scope h2⟩
  | goto l => exact hq.elim
  | ret => exact ⟨_, a₁, w₁, hq, .of_steps (.one h0 stepR_scope) harr⟩
  | panic ch => exact ⟨_, a₁, w₁, hq, .of_steps (.one h0 stepR_scope) harr⟩
  | outgrown => exact ⟨_, a₁, w₁, hq, .of_steps (.one h0 stepR_scope) harr⟩

/-- At most m jumps to labels of the scope. -/
def Jumps (F : Fence) (n : Nat) (P : Program) (b : Code) (Q : Exit → Act → World → Prop) : Nat → Exit → Act → World → Prop
  | 0, .goto _, _, _ => False
  | m + 1, .goto l, a, w => ∃ rest, findLabel b l = some rest ∧ rest.wpIn F n P (Jumps F n P b Q m) a w
  | _, e, a, w => Q e a w

theorem wpIn_scope_unroll {c : Code} (m : Nat) (h : c.wpIn F n P (Jumps F n P c Q m) a w) : (Code.scope c).wpIn F n P Q a w := by
  intro b k cs hro hb hr
  have h0 : (lone (b.atR a (.code (.scope c) :: k)) cs w).fenced P F := fenced_calm hb hr rfl
  have fin : ∀ (m : Nat) (e : Exit) (a₁ : Act) (w₁ : World) (M : Machine), Jumps F n P c Q m e a₁ w₁ → ArrivesIn (Machine.fenced P F) P M b (.inScope c :: k) cs e a₁ w₁ → ∃ e a' w', Q e a' w' ∧ ArrivesIn (Machine.fenced P F) P M b k cs e a' w' := by
    intro m
    induction m with
    | zero =>
      intro e a₁ w₁ M hq harr
      cases e with
      | normal => exact ⟨.normal, a₁, w₁, hq, StepsIn.trans harr (.one (fenced_calm hb hr rfl) stepR_inScope)⟩
      | exit id => exact ⟨.exit id, a₁, w₁, hq, fun k' hk => harr.1 k' (by simp [exitTo, hk]), fun hr' hk => harr.2 hr' (by simp [exitTo, hk])⟩
      | goto l' => exact hq.elim
      | ret => exact ⟨_, a₁, w₁, hq, harr⟩
      | panic ch => exact ⟨_, a₁, w₁, hq, harr⟩
      | outgrown => exact ⟨_, a₁, w₁, hq, harr⟩
    | succ m ih =>
      intro e a₁ w₁ M hq harr
      cases e with
      | normal => exact ⟨.normal, a₁, w₁, hq, StepsIn.trans harr (.one (fenced_calm hb hr rfl) stepR_inScope)⟩
      | exit id => exact ⟨.exit id, a₁, w₁, hq, fun k' hk => harr.1 k' (by simp [exitTo, hk]), fun hr' hk => harr.2 hr' (by simp [exitTo, hk])⟩
      | goto l' =>
        obtain ⟨rest, hf, hw⟩ := hq
        have hg : gotoIn l' (.inScope c :: k) = some (.code rest :: .inScope c :: k) := by simp [gotoIn, hf]
        obtain ⟨e₂, a₂, w₂, hq₂, harr₂⟩ := hw b (.inScope c :: k) cs hro hb hr
        obtain ⟨e₃, a₃, w₃, hq₃, harr₃⟩ := ih e₂ a₂ w₂ _ hq₂ harr₂
        exact ⟨e₃, a₃, w₃, hq₃, .of_steps (harr.1 _ hg) harr₃⟩
      | ret => exact ⟨_, a₁, w₁, hq, harr⟩
      | panic ch => exact ⟨_, a₁, w₁, hq, harr⟩
      | outgrown => exact ⟨_, a₁, w₁, hq, harr⟩
  obtain ⟨e, a₁, w₁, hq, harr⟩ := h b (.inScope c :: k) cs hro hb hr
  obtain ⟨e', a', w', hq', harr'⟩ := fin m e a₁ w₁ _ hq harr
  exact ⟨e', a', w', hq', .of_steps (.one h0 stepR_scope) harr'⟩

theorem wpIn_loop_ghost {c : Code} (I : Nat → Act → World → Prop) (n₀ : Nat) (h₀ : I n₀ a w)
    (round : ∀ m a w, I m a w → c.wpIn F n P (Exit.then (fun a' w' => ∃ n', n' < m ∧ I n' a' w') Q) a w) : (Code.loop c).wpIn F n P Q a w := by
  refine wpIn_loop (fun a w => ∃ n, I n a w) (fun a w => leastOf (fun n => I n a w)) ⟨n₀, h₀⟩ ?_
  intro a w hI
  refine wpIn_mono (round _ a w (leastOf_spec hI).1) ?_
  intro e a' w' hq
  cases e with
  | normal =>
    obtain ⟨n', hlt, hI'⟩ := hq
    exact show (∃ n, I n a' w') ∧ leastOf (fun n => I n a' w') < leastOf (fun n => I n a w) from ⟨⟨n', hI'⟩, Nat.lt_of_le_of_lt ((leastOf_spec ⟨n', hI'⟩).2 n' hI') hlt⟩
  | exit id => exact hq
  | goto l => exact hq
  | ret => exact hq
  | panic ch => exact hq
  | outgrown => exact hq
end

def opTmps (o : Oper) : List Nat := o.op.operands.toList.filterMap fun | .tmp t => some t | _ => none

/-- What an operation looks at. -/
def looks (all : Array Oper) (o : Oper) : List Nat :=
  opTmps o ++ (match o.guard with | some (j, _) => ((all[j]?).bind (·.dst)).toList | none => [])

def befStep (acc : List Nat) (o : Oper) : Nat :=
  o.after.toList.foldl (fun s e => match Region.binds .any e with | true => s ||| 2 ^ e.on ||| acc.getD e.on 0 | false => s) 0

def befGo : List Oper → List Nat → List Nat
  | [], acc => acc
  | o :: l, acc => befGo l (acc ++ [befStep acc o])

/-- Of each operation those that are done wherever it may come up, as bits. -/
def bef (ops : List Oper) : List Nat := befGo ops []

def pairsB {α : Type} (c : α → α → Bool) (b : List Nat) : List (α × Nat) → Bool
  | [] => true
  | (x, i) :: l => l.all (fun q => match c x q.1 with | true => (b.getD q.2 0).testBit i | false => true) && pairsB c b l

def conflictT (all : Array Oper) (o p : Oper) : Bool :=
  (match o.dst with | some t => (looks all p).any (Nat.beq t) || (match p.dst with | some u => Nat.beq t u | none => false) | none => false) ||
  (match p.dst with | some t => (looks all o).any (Nat.beq t) | none => false)

def backB (ops : List Oper) : Bool := ops.zipIdx.all fun q => q.1.after.toList.all fun e => !Region.binds .any e || Nat.blt e.on q.2

def staticB (all : Array Oper) : Bool := backB all.toList && pairsB (conflictT all) (bef all.toList) all.toList.zipIdx

def staticC : Code → Bool
  | .region _ ops draw => match draw with | true => staticB ops | false => true
  | .seq a b => staticC a && staticC b
  | .cond _ a b => staticC a && staticC b
  | .block _ b => staticC b
  | .loop b => staticC b
  | .scope b => staticC b
  | .rangeFunc _ _ a b => staticC a && staticC b
  | _ => true

end
end Go.SX
