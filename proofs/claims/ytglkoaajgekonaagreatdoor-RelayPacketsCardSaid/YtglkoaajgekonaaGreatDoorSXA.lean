/- SX, part W: walks in the frame of a function, or of a round of a range over a function. -/
import Derived.OrdersIn
import Derived.TacticsIn
import Derived.LoopNIn
import Derived.Scope
import Derived.ScopeJumps
import Derived.Deep.LoopGhost
import Derived.DefersIn
import Derived.Orders
import Derived.Laws.World
import Derived.Laws.Sem
import Derived.Laws.AppendOwn
import Derived.Tactics
import Derived.Laws.StructEq
namespace Go.SX
noncomputable section
def Wd (ro : Option Nat) : Fence := { Fence.wide with round := ro }
theorem wd_depth (ro : Option Nat) : (Wd ro).depth.isSome = true → 1 ≤ 0 := fun h => by simp [Wd, Fence.wide] at h
theorem callsIn_wd {ro : Option Nat} {n : Nat} {P : Program} {f : FuncId} {args : Array Value} {w : World} {R : Ending → World → Prop} : CallsIn (Wd ro) n P f args w R ↔ Calls P f args w R :=
  (show CallsIn (Wd ro) n P f args w R ↔ CallsIn Fence.wide n P f args w R from Iff.rfl).trans callsIn_wide
theorem rowsIn_wd {ro : Option Nat} {n : Nat} {P : Program} {row : String} {args : Array Value} {w : World} {R : Value → World → Prop} (h : Rows P row args w R) : RowsIn (Wd ro) n P row args w R := by
  intro c cs _
  obtain ⟨v, w', r, s⟩ := h c cs
  exact ⟨v, w', r, stepsIn_wide.2 s⟩
theorem op_wd {P : Program} {ro : Option Nat} {o : Oper} {a : Act} {w : World} {next : Act → World → Prop} {Q : Exit → Act → World → Prop} (hd : (∀ c, o.op ≠ .defer c) ∨ ro = none) (h : o.wp P a w next Q) : o.wpIn (Wd ro) 0 P a w next Q := by
  refine ⟨fun _ _ => trivial, ?_⟩
  have e : o.semAt (Wd ro).round a.eval = execOp a.eval o := by
    rcases hd with hd | rfl
    · exact Oper.semAt_eq _ _ o hd
    · rfl
  rw [e]
  unfold Oper.wp at h
  generalize (execOp a.eval o).run P w = r at *
  cases r with
  | ok x w' =>
    cases x <;> simp only [Oper.upon, Oper.uponIn] at h ⊢ <;>
      first
        | exact h
        | exact h.elim
        | exact ⟨wd_depth ro, callsIn_wd.2 h⟩
        | exact ⟨wd_depth ro, rowsIn_wd h⟩
  | halt x w' => cases x <;> simp only [Oper.upon, Oper.uponIn] at h ⊢ <;> exact h
section
variable {F : Fence} {n : Nat} {P : Program} {b : Frame} {a : Act} {k : List Item} {cs : List Frame} {w : World} {Q : Exit → Act → World → Prop}
theorem stepR_scope {c : Code} : step P (lone (b.atR a (.code (.scope c) :: k)) cs w) = .next (lone (b.atR a (.code c :: .inScope c :: k)) cs w) :=
  step_lone_go (by simp [stepG, stepG.exec, Frame.atR])
theorem stepR_inScope {c : Code} : step P (lone (b.atR a (.inScope c :: k)) cs w) = .next (lone (b.atR a k) cs w) :=
  step_lone_go (by simp [stepG, stepG.exec, Frame.atR])
theorem wpIn_scope_straight {c : Code} (h : c.wpIn F n P (Exit.noGoto Q) a w) : (Code.scope c).wpIn F n P Q a w := by
  intro b k cs hro hb hr
  obtain ⟨e, a₁, w₁, hq, harr⟩ := h b (.inScope c :: k) cs hro hb hr
  have h0 : (lone (b.atR a (.code (.scope c) :: k)) cs w).fenced P F := fenced_calm hb hr rfl
  cases e with
  | normal => exact ⟨.normal, a₁, w₁, hq, .head h0 stepR_scope (StepsIn.trans harr (.one (fenced_calm hb hr rfl) stepR_inScope))⟩
  | exit id =>
    refine ⟨.exit id, a₁, w₁, hq, fun k' hk => .head h0 stepR_scope (harr.1 k' (by simp [exitTo, hk])), fun hr' hk => ?_⟩
    obtain ⟨k₁, h1, h2⟩ := harr.2 hr' (by simp [exitTo, hk])
    exact ⟨k₁, h1, .head h0 stepR_scope h2⟩
  | goto l => exact hq.elim
  | ret => exact ⟨_, a₁, w₁, hq, .of_steps (.one h0 stepR_scope) harr⟩
  | panic ch => exact ⟨_, a₁, w₁, hq, .of_steps (.one h0 stepR_scope) harr⟩
  | outgrown => exact ⟨_, a₁, w₁, hq, .of_steps (.one h0 stepR_scope) harr⟩
def Jumps (F : Fence) (n : Nat) (P : Program) (b : Code) (Q : Exit → Act → World → Prop) : Nat → Exit → Act → World → Prop
  | 0, .goto _, _, _ => False
  | m + 1, .goto l, a, w => ∃ rest, findLabel b l = some rest ∧ rest.wpIn F n P (Jumps F n P b Q m) a w
  | _, e, a, w => Q e a w
theorem wpIn_scope_unroll {c : Code} (m : Nat) (h : c.wpIn F n P (Jumps F n P c Q m) a w) : (Code.scope c).wpIn F n P Q a w := by
  intro b k cs hro hb hr
  have h0 : (lone (b.atR a (.code (.scope c) :: k)) cs w).fenced P F := fenced_calm hb hr rfl
  have fin : ∀ (m : Nat) (e : Exit) (a₁ : Act) (w₁ : World) (M : Machine), Jumps F n P c Q m e a₁ w₁ → ArrivesIn (Machine.fenced P F) P M b (.inScope c :: k) cs e a₁ w₁ → ∃ e a' w', Q e a' w' ∧ ArrivesIn (Machine.fenced P F) P M b k cs e a' w' := by
    intro m
    induction m with
    | zero =>
      intro e a₁ w₁ M hq harr
      cases e with
      | normal => exact ⟨.normal, a₁, w₁, hq, StepsIn.trans harr (.one (fenced_calm hb hr rfl) stepR_inScope)⟩
      | exit id => exact ⟨.exit id, a₁, w₁, hq, fun k' hk => harr.1 k' (by simp [exitTo, hk]), fun hr' hk => harr.2 hr' (by simp [exitTo, hk])⟩
      | goto l' => exact hq.elim
      | ret => exact ⟨_, a₁, w₁, hq, harr⟩
      | panic ch => exact ⟨_, a₁, w₁, hq, harr⟩
      | outgrown => exact ⟨_, a₁, w₁, hq, harr⟩
    | succ m ih =>
      intro e a₁ w₁ M hq harr
      cases e with
      | normal => exact ⟨.normal, a₁, w₁, hq, StepsIn.trans harr (.one (fenced_calm hb hr rfl) stepR_inScope)⟩
      | exit id => exact ⟨.exit id, a₁, w₁, hq, fun k' hk => harr.1 k' (by simp [exitTo, hk]), fun hr' hk => harr.2 hr' (by simp [exitTo, hk])⟩
      | goto l' =>
        obtain ⟨rest, hf, hw⟩ := hq
        have hg : gotoIn l' (.inScope c :: k) = some (.code rest :: .inScope c :: k) := by simp [gotoIn, hf]
        obtain ⟨e₂, a₂, w₂, hq₂, harr₂⟩ := hw b (.inScope c :: k) cs hro hb hr
        obtain ⟨e₃, a₃, w₃, hq₃, harr₃⟩ := ih e₂ a₂ w₂ _ hq₂ harr₂
        exact ⟨e₃, a₃, w₃, hq₃, .of_steps (harr.1 _ hg) harr₃⟩
      | ret => exact ⟨_, a₁, w₁, hq, harr⟩
      | panic ch => exact ⟨_, a₁, w₁, hq, harr⟩
      | outgrown => exact ⟨_, a₁, w₁, hq, harr⟩
  obtain ⟨e, a₁, w₁, hq, harr⟩ := h b (.inScope c :: k) cs hro hb hr
  obtain ⟨e', a', w', hq', harr'⟩ := fin m e a₁ w₁ _ hq harr
  exact ⟨e', a', w', hq', .of_steps (.one h0 stepR_scope) harr'⟩
theorem wpIn_loop_ghost {c : Code} (I : Nat → Act → World → Prop) (n₀ : Nat) (h₀ : I n₀ a w)
    (round : ∀ m a w, I m a w → c.wpIn F n P (Exit.then (fun a' w' => ∃ n', n' < m ∧ I n' a' w') Q) a w) : (Code.loop c).wpIn F n P Q a w := by
  refine wpIn_loop (fun a w => ∃ n, I n a w) (fun a w => leastOf (fun n => I n a w)) ⟨n₀, h₀⟩ ?_
  intro a w hI
  refine wpIn_mono (round _ a w (leastOf_spec hI).1) ?_
  intro e a' w' hq
  cases e with
  | normal =>
    obtain ⟨n', hlt, hI'⟩ := hq
    exact show (∃ n, I n a' w') ∧ leastOf (fun n => I n a' w') < leastOf (fun n => I n a w) from ⟨⟨n', hI'⟩, Nat.lt_of_le_of_lt ((leastOf_spec ⟨n', hI'⟩).2 n' hI') hlt⟩
  | exit id => exact hq
  | goto l => exact hq
  | ret => exact hq
  | panic ch => exact hq
  | outgrown => exact hq
end
def opTmps (o : Oper) : List Nat := o.op.operands.toList.filterMap fun | .tmp t => some t | _ => none
def looks (all : Array Oper) (o : Oper) : List Nat :=
  opTmps o ++ (match o.guard with | some (j, _) => ((all[j]?).bind (·.dst)).toList | none => [])
def befStep (acc : List Nat) (o : Oper) : Nat :=
  o.after.toList.foldl (fun s e => match Region.binds .any e with | true => s ||| 2 ^ e.on ||| acc.getD e.on 0 | false => s) 0
def befGo : List Oper → List Nat → List Nat
  | [], acc => acc
  | o :: l, acc => befGo l (acc ++ [befStep acc o])
def bef (ops : List Oper) : List Nat := befGo ops []
def pairsB {α : Type} (c : α → α → Bool) (b : List Nat) : List (α × Nat) → Bool
  | [] => true
  | (x, i) :: l => l.all (fun q => match c x q.1 with | true => (b.getD q.2 0).testBit i | false => true) && pairsB c b l
def conflictT (all : Array Oper) (o p : Oper) : Bool :=
  (match o.dst with | some t => (looks all p).any (Nat.beq t) || (match p.dst with | some u => Nat.beq t u | none => false) | none => false) ||
  (match p.dst with | some t => (looks all o).any (Nat.beq t) | none => false)
def backB (ops : List Oper) : Bool := ops.zipIdx.all fun q => q.1.after.toList.all fun e => !Region.binds .any e || Nat.blt e.on q.2
def staticB (all : Array Oper) : Bool := backB all.toList && pairsB (conflictT all) (bef all.toList) all.toList.zipIdx
def staticC : Code → Bool
  | .region _ ops draw => match draw with | true => staticB ops | false => true
  | .seq a b => staticC a && staticC b
  | .cond _ a b => staticC a && staticC b
  | .block _ b => staticC b
  | .loop b => staticC b
  | .scope b => staticC b
  | .rangeFunc _ _ a b => staticC a && staticC b
  | _ => true
end
end Go.SX
namespace Go.SX
noncomputable section
inductive AV where
  | bool (b : Bool)
  | int (k : IntKind) (n : Int)
  | str (s : ByteArray)
  | hd (h : Nat)
  | sl (h len : Nat)
  | ptr (h off : Nat)
  | el (h z i o : Nat)
  | slc (h off len cap : Nat)
  | sv (h z i len : Nat) (cap : Option Nat)
  | yld (h : Nat)
  | nilp | nils | nilm | nilf | nili
  | agg (l : List AV)
  | tup (l : List AV)
  | iface (t : TypeId) (v : AV)
  | fn (f : Fn) (first captured : List AV)
  | raw (v : Value)
abbrev Env := Nat → Option Value
def leafV : Value → Prop
  | .agg _ => False
  | .tuple _ => False
  | _ => True
mutual
def Den (env : Env) : AV → Value → Prop
  | .bool b, x => x = .bool b
  | .int k n, x => x = .int k n
  | .str s, x => x = .string s
  | .hd h, x => env h = some x ∧ leafV x
  | .sl h len, x => env h = some x ∧ ∃ p cap, x = .slice p len cap ∧ (0 < len → ∃ b o, p = some ⟨b, o, none⟩)
  | .ptr h off, x => ∃ b, env h = some (.pointer (some ⟨b, 0, none⟩)) ∧ x = .pointer (some ⟨b, off, none⟩)
  | .el h z i o, x => ∃ b p len cap, env h = some (.slice (some ⟨b, p, none⟩) len cap) ∧ x = .pointer (some ⟨b, p + (i * z + o), none⟩)
  | .slc h off len cap, x => ∃ b, env h = some (.pointer (some ⟨b, 0, none⟩)) ∧ x = .slice (some ⟨b, off, none⟩) len cap
  | .sv h z i len cap, x => ∃ b o m C p c, env h = some (.slice (some ⟨b, o, none⟩) m C) ∧ x = .slice (some p) len c ∧ len ≤ c ∧ i + c ≤ C ∧ (cap = none → i + c = C) ∧ (∀ k, cap = some k → c = k) ∧ (0 < c → p = ⟨b, o + i * z, none⟩)
  | .yld h, x => ∃ l, env h = some (.pointer (some ⟨l, 0, none⟩)) ∧ x = .func (.yield l) #[] #[]
  | .nilp, x => x = .pointer none
  | .nils, x => x = .slice none 0 0
  | .nilm, x => x = .map none
  | .nilf, x => x = .nilFunc
  | .nili, x => x = .nilIface
  | .agg l, x => ∃ xs, x = .agg xs ∧ Dens env l xs.toList
  | .tup l, x => ∃ xs, x = .tuple xs ∧ Dens env l xs.toList
  | .iface t v, x => ∃ y, x = .iface t y ∧ Den env v y
  | .fn f l m, x => ∃ xs ys, x = .func f xs ys ∧ Dens env l xs.toList ∧ Dens env m ys.toList
  | .raw v, x => x = v
def Dens (env : Env) : List AV → List Value → Prop
  | [], xs => xs = []
  | v :: l, xs => ∃ y ys, xs = y :: ys ∧ Den env v y ∧ Dens env l ys
end
def Env.le (e e' : Env) : Prop := ∀ h v, e h = some v → e' h = some v
mutual
theorem Den.mono {e e' : Env} (hle : e.le e') : ∀ (v : AV) {x : Value}, Den e v x → Den e' v x
  | .bool _, _, h | .int _ _, _, h | .str _, _, h | .nilp, _, h | .nils, _, h | .nilm, _, h | .nilf, _, h | .nili, _, h | .raw _, _, h => by simpa only [Den] using h
  | .hd _, _, h => by simp only [Den] at h ⊢; exact ⟨hle _ _ h.1, h.2⟩
  | .sl _ _, _, h => by simp only [Den] at h ⊢; exact ⟨hle _ _ h.1, h.2⟩
  | .ptr _ _, _, h => by simp only [Den] at h ⊢; obtain ⟨b, h1, h2⟩ := h; exact ⟨b, hle _ _ h1, h2⟩
  | .slc _ _ _ _, _, h => by simp only [Den] at h ⊢; obtain ⟨b, h1, h2⟩ := h; exact ⟨b, hle _ _ h1, h2⟩
  | .el _ _ _ _, _, h => by simp only [Den] at h ⊢; obtain ⟨b, o, l, c, h1, h2⟩ := h; exact ⟨b, o, l, c, hle _ _ h1, h2⟩
  | .yld _, _, h => by simp only [Den] at h ⊢; obtain ⟨l, h1, h2⟩ := h; exact ⟨l, hle _ _ h1, h2⟩
  | .sv _ _ _ _ _, _, h => by simp only [Den] at h ⊢; obtain ⟨b, o, m, C, p, c, h1, h2⟩ := h; exact ⟨b, o, m, C, p, c, hle _ _ h1, h2⟩
  | .agg l, _, h => by simp only [Den] at h ⊢; obtain ⟨xs, h1, h2⟩ := h; exact ⟨xs, h1, Dens.mono hle l h2⟩
  | .tup l, _, h => by simp only [Den] at h ⊢; obtain ⟨xs, h1, h2⟩ := h; exact ⟨xs, h1, Dens.mono hle l h2⟩
  | .iface _ v, _, h => by simp only [Den] at h ⊢; obtain ⟨y, h1, h2⟩ := h; exact ⟨y, h1, Den.mono hle v h2⟩
  | .fn _ l m, _, h => by simp only [Den] at h ⊢; obtain ⟨xs, ys, h1, h2, h3⟩ := h; exact ⟨xs, ys, h1, Dens.mono hle l h2, Dens.mono hle m h3⟩
theorem Dens.mono {e e' : Env} (hle : e.le e') : ∀ (l : List AV) {xs : List Value}, Dens e l xs → Dens e' l xs
  | [], _, h => by simpa only [Dens] using h
  | v :: l, _, h => by simp only [Dens] at h ⊢; obtain ⟨y, ys, h1, h2, h3⟩ := h; exact ⟨y, ys, h1, Den.mono hle v h2, Dens.mono hle l h3⟩
end
theorem Env.le.refl (e : Env) : e.le e := fun _ _ h => h
theorem Env.le.trans {a b c : Env} (h : a.le b) (k : b.le c) : a.le c := fun _ _ x => k _ _ (h _ _ x)
def Agree (F : Nat → Prop) (w w' : World) : Prop := ∀ b, F b → w'.heap[b]? = w.heap[b]?
def Clo (v : AV) (x : Value) : Prop := x.oneCell' = true ∧ ∀ env, Den env v x
def ReadsAs (v : Value) (len esz : Nat) (cell : Nat → Nat → AV) (F : Nat → Prop) (w : World) : Prop :=
  ∃ p cap, v = .slice p len cap ∧ len ≤ cap ∧ ((len = 0 ∧ ∀ b, ¬ F b) ∨ ∃ b o arr e f, p = some ⟨b, o, none⟩ ∧ (∀ k, F k ↔ k = b) ∧ w.heap[b]? = some (.cells arr e f) ∧
    ∀ i c, i < len → c < esz → ∃ x, arr[o + (i * esz + c)]? = some x ∧ Clo (cell i c) x)
def OwnSat (e len esz : Nat) (cell : Nat → Nat → AV) (v : Value) (F : Nat → Prop) (w : World) : Prop :=
  ∃ xs, w.ownsRow 0 e esz v len xs ∧ (∀ b, F b ↔ v.ownBlock = some b) ∧ ∀ i c, i < len → c < esz → ∃ x, xs[i * esz + c]? = some x ∧ Clo (cell i c) x
structure ARes where
  ro : Bool
  tag : Option (Option Nat)
  flat : Bool
  len : Nat
  esz : Nat
  cell : Nat → Nat → AV
  sat : Value → (Nat → Prop) → World → Prop
  stable : ∀ {v F w w'}, sat v F w → Agree F w w' → sat v F w'
  bound : ∀ {v F w}, sat v F w → ∀ b, F b → b < w.heap.size
  own : ∀ e, tag = some (some e) → ro = false ∧ ∀ {v F w}, sat v F w ↔ OwnSat e len esz cell v F w
  reads : ∀ k, tag = some k → ∀ {v F w}, sat v F w → ReadsAs v len esz cell F w
  read : tag = some none → ro = true ∧ ∀ {v F w}, sat v F w ↔ ReadsAs v len esz cell F w
  cells : flat = true → ∀ {v F w}, sat v F w → ∀ i o, i < len → o < esz → ∃ b p n cap, v = .slice (some ⟨b, p, none⟩) n cap ∧ ∃ x, w.cell? ⟨b, p + (i * esz + o), none⟩ = some x ∧ ∀ env, Den env (cell i o) x
  glob : Option (Nat × Value) := none
  isGlob : ∀ p, glob = some p → ∀ {v F w}, sat v F w → v = .pointer (some ⟨p.1, 0, none⟩) ∧ (∀ k, F k ↔ k = p.1) ∧ w.cell? ⟨p.1, 0, none⟩ = some p.2 := by intro p h; cases h
def DenM (env : Env) : List (AV × AV) → List MapEntry → Prop
  | [], es => es = []
  | (k, v) :: l, es => ∃ e t, es = e :: t ∧ Den env k e.key ∧ Den env v e.val ∧ DenM env l t
theorem DenM.mono {e e' : Env} (hle : e.le e') : ∀ {l : List (AV × AV)} {es : List MapEntry}, DenM e l es → DenM e' l es
  | [], _, h => h
  | (k, v) :: _, _, ⟨e, t, h1, h2, h3, h4⟩ => ⟨e, t, h1, Den.mono hle k h2, Den.mono hle v h3, DenM.mono hle h4⟩
def curOf (xs : Array MapEntry) (seen : Array Nat) : List MapEntry :=
  match seen.back? with
  | some st => (xs.find? fun e => e.born == st).toList
  | none => []
structure Born (es : List MapEntry) (clock : Nat) : Prop where
  lt : ∀ e ∈ es, e.born < clock
  ne : es.Pairwise fun a b => a.born ≠ b.born
structure LoopR where
  fr : List (Nat × AV)
  sz : Nat
  ps : Array Tmp
  as : Code
  body : Code
  st : LoopState
  pend : Option Code
  dh : Nat
def look {α : Type} (l : List (Nat × α)) (n : Nat) : Option α := List.rec (motive := fun _ => Option α) none (fun p _ ih => Bool.rec ih (some p.2) (Nat.beq p.1 n)) l
theorem lookN {α : Type} (n : Nat) : look ([] : List (Nat × α)) n = none := rfl
theorem lookC {α : Type} (k : Nat) (v : α) (l : List (Nat × α)) (n : Nat) : look ((k, v) :: l) n = (match Nat.beq k n with
    | true => some v
    | false => look l n) := by
  show (Bool.rec (look l n) (some v) (Nat.beq k n) : Option α) = _
  cases Nat.beq k n <;> rfl
def appR {β : Type} (l m : List β) : List β := List.rec (motive := fun _ => List β) m (fun x _ ih => x :: ih) l
@[simp] theorem appR_eq {β : Type} (l m : List β) : appR l m = l ++ m := by
  induction l with
  | nil => rfl
  | cons x l ih => show x :: appR l m = _; rw [ih]; rfl
def takeR {β : Type} (n : Nat) (l : List β) : List β := List.rec (motive := fun _ => Nat → List β) (fun _ => []) (fun x _ ih n => Nat.rec [] (fun k _ => x :: ih k) n) l n
@[simp] theorem takeR_eq {β : Type} (n : Nat) (l : List β) : takeR n l = l.take n := by
  induction l generalizing n with
  | nil => cases n <;> rfl
  | cons x l ih =>
    cases n with
    | zero => rfl
    | succ n => show x :: takeR n l = _; rw [ih]; rfl
def dropR {β : Type} (n : Nat) (l : List β) : List β := List.rec (motive := fun _ => Nat → List β) (fun _ => []) (fun x l ih n => Nat.rec (x :: l) (fun k _ => ih k) n) l n
@[simp] theorem dropR_eq {β : Type} (n : Nat) (l : List β) : dropR n l = l.drop n := by
  induction l generalizing n with
  | nil => cases n <;> rfl
  | cons x l ih =>
    cases n with
    | zero => rfl
    | succ n => show dropR n l = _; rw [ih]; rfl
def lenR {β : Type} (l : List β) : Nat := List.rec (motive := fun _ => Nat → Nat) (fun k => k) (fun _ _ ih k => ih (Nat.add k 1)) l 0
@[simp] theorem lenR_eq {β : Type} (l : List β) : lenR l = l.length := by
  have key : ∀ (l : List β) (k : Nat), (List.rec (motive := fun _ => Nat → Nat) (fun k => k) (fun _ _ ih k => ih (Nat.add k 1)) l k : Nat) = k + l.length := by
    intro l
    induction l with
    | nil => intro k; rfl
    | cons x l ih => intro k; show (List.rec (motive := fun _ => Nat → Nat) (fun k => k) (fun _ _ ih k => ih (Nat.add k 1)) l (Nat.add k 1) : Nat) = _; rw [ih]; simp only [List.length_cons, Nat.add_eq]; omega
  exact (key l 0).trans (Nat.zero_add _)
def allR {β : Type} (l : List β) (p : β → Bool) : Bool := List.rec (motive := fun _ => Bool) true (fun x _ ih => Bool.rec false ih (p x)) l
@[simp] theorem allR_eq {β : Type} (l : List β) (p : β → Bool) : allR l p = l.all p := by
  induction l with
  | nil => rfl
  | cons x l ih =>
    show (Bool.rec false (allR l p) (p x) : Bool) = _
    rw [ih, List.all_cons]
    cases p x <;> rfl
def filterR {β : Type} (l : List β) (p : β → Bool) : List β := List.rec (motive := fun _ => List β) [] (fun x _ ih => Bool.rec ih (x :: ih) (p x)) l
@[simp] theorem filterR_eq {β : Type} (l : List β) (p : β → Bool) : filterR l p = l.filter p := by
  induction l with
  | nil => rfl
  | cons x l ih =>
    show (Bool.rec (filterR l p) (x :: filterR l p) (p x) : List β) = _
    rw [ih, List.filter_cons]
    cases p x <;> rfl
structure LoopSat (env : Env) (L : LoopR) (r : Loop) : Prop where
  sz : r.tmps.size = L.sz
  ps : r.params = L.ps
  as : r.assign = L.as
  body : r.body = L.body
  st : r.state = L.st
  pend : r.pending = L.pend
  dh : env L.dh = some (.pointer (some ⟨r.defers, 0, none⟩))
  fr : ∀ t v, look L.fr t = some v → ∃ x, r.tmps[t]? = some x ∧ Den env v x
  stat : staticC L.as = true ∧ staticC L.body = true
theorem LoopSat.mono {e e' : Env} (hle : e.le e') {L : LoopR} {r : Loop} (h : LoopSat e L r) : LoopSat e' L r :=
  ⟨h.sz, h.ps, h.as, h.body, h.st, h.pend, hle _ _ h.dh, fun t v hv => let ⟨x, h1, h2⟩ := h.fr t v hv; ⟨x, h1, Den.mono hle v h2⟩, h.stat⟩
inductive Res where
  | dblk
  | loop (L : LoopR)
  | gone
  | box (elem : TypeId) (cells : List AV)
  | abs (A : ARes)
  | row (e z : Nat) (cells : List AV) (cap : Option Nat)
  | map (es : List (AV × AV))
  | rmap (es todo cur : List (AV × AV)) (it : Nat)
  | iter (m : Nat)
def Res.excl : Res → Bool
  | .dblk => true
  | .loop _ => true
  | .gone => true
  | .box .. => true
  | .abs A => !A.ro
  | .row .. => true
  | .map _ => true
  | .rmap .. => true
  | .iter _ => true
def Res.sat (env : Env) (v : Value) (F : Nat → Prop) (w : World) : Res → Prop
  | .dblk => ∃ b, v = .pointer (some ⟨b, 0, none⟩) ∧ (∀ k, F k ↔ k = b) ∧ w.heap[b]? = some (.deferred (some []))
  | .loop L => ∃ b r, v = .pointer (some ⟨b, 0, none⟩) ∧ (∀ k, F k ↔ k = b) ∧ w.heap[b]? = some (.loop r) ∧ LoopSat env L r
  | .gone => ∀ b, ¬ F b
  | .box e cs => ∃ b xs, v = .pointer (some ⟨b, 0, none⟩) ∧ (∀ k, F k ↔ k = b) ∧ w.heap[b]? = some (.cells xs e (0, 0)) ∧ Dens env cs xs.toList
  | .abs A => A.sat v F w
  | .row e z cs cap => ∃ b o m C xs lo hi ys tl, v = .slice (some ⟨b, o, none⟩) m C ∧ (∀ k, F k ↔ k = b) ∧ w.heap[b]? = some (.cells xs e (lo, hi)) ∧ ((z = 1 ∧ xs.size ≤ lo) ∨ hi ≤ lo) ∧ xs.size = o + C * z ∧
      xs.toList.drop o = ys ++ tl ∧ Dens env cs ys ∧ (∀ k, cap = some k → C = k)
  | .map es => ∃ b xs clock, v = .map (some b) ∧ (∀ k, F k ↔ k = b) ∧ w.heap[b]? = some (.map xs clock) ∧ DenM env es xs.toList ∧ Born xs.toList clock
  | .rmap es todo cur it => ∃ b r xs clock since seen, v = .map (some b) ∧ r ≠ b ∧ env it = some (.pointer (some ⟨r, 0, none⟩)) ∧ (∀ k, F k ↔ k = b ∨ k = r) ∧ w.heap[b]? = some (.map xs clock) ∧
      w.heap[r]? = some (.mapIter (some b) since seen clock) ∧ DenM env es xs.toList ∧ Born xs.toList clock ∧ (since ≤ clock ∧ ∀ e ∈ xs.toList, e.born < since) ∧ DenM env todo (xs.toList.filter fun e => !seen.contains e.born) ∧ DenM env cur (curOf xs seen)
  | .iter _ => ∀ b, ¬ F b
theorem Res.sat_stable {env env' : Env} {v : Value} {F : Nat → Prop} {w w' : World} (hle : env.le env') (hag : Agree F w w') : ∀ {r : Res}, r.sat env v F w → r.sat env' v F w'
  | .dblk, ⟨b, h1, h2, h3⟩ => ⟨b, h1, h2, by rw [hag b ((h2 b).2 rfl)]; exact h3⟩
  | .loop L, ⟨b, r, h1, h2, h3, h4⟩ => ⟨b, r, h1, h2, by rw [hag b ((h2 b).2 rfl)]; exact h3, h4.mono hle⟩
  | .gone, h => h
  | .box e cs, ⟨b, xs, h1, h2, h3, h4⟩ => ⟨b, xs, h1, h2, by rw [hag b ((h2 b).2 rfl)]; exact h3, Dens.mono hle cs h4⟩
  | .abs A, h => A.stable h hag
  | .row e z cs cap, ⟨b, o, m, C, xs, lo, hi, ys, tl, h1, h2, h3, h4, h5, h6, h7, h8⟩ => ⟨b, o, m, C, xs, lo, hi, ys, tl, h1, h2, by rw [hag b ((h2 b).2 rfl)]; exact h3, h4, h5, h6, Dens.mono hle cs h7, h8⟩
  | .map es, ⟨b, xs, c, h1, h2, h3, h4, h5⟩ => ⟨b, xs, c, h1, h2, by rw [hag b ((h2 b).2 rfl)]; exact h3, h4.mono hle, h5⟩
  | .rmap es todo cur it, ⟨b, r, xs, c, s, n, h1, h0, h2, h3, h4, h5, h6, h7, h8, h9, h10⟩ => ⟨b, r, xs, c, s, n, h1, h0, hle _ _ h2, h3, by rw [hag b ((h3 b).2 (.inl rfl))]; exact h4, by rw [hag r ((h3 r).2 (.inr rfl))]; exact h5, h6.mono hle, h7, h8, h9.mono hle, h10.mono hle⟩
  | .iter _, h => h
theorem getElem?_lt {α : Type} {l : Array α} {i : Nat} {x : α} (h : l[i]? = some x) : i < l.size := by
  rcases Nat.lt_or_ge i l.size with h' | h'
  · exact h'
  · simp [Array.getElem?_eq_none h'] at h
theorem Res.sat_bound {env : Env} {v : Value} {F : Nat → Prop} {w : World} : ∀ {r : Res}, r.sat env v F w → ∀ b, F b → b < w.heap.size
  | .dblk, ⟨b, _, h2, h3⟩, k, hk => by rw [(h2 k).1 hk]; exact getElem?_lt h3
  | .loop _, ⟨b, _, _, h2, h3, _⟩, k, hk => by rw [(h2 k).1 hk]; exact getElem?_lt h3
  | .gone, h, b, hb => (h b hb).elim
  | .box _ _, ⟨b, _, _, h2, h3, _⟩, k, hk => by rw [(h2 k).1 hk]; exact getElem?_lt h3
  | .abs A, h, b, hb => A.bound h b hb
  | .row .., ⟨b, _, _, _, _, _, _, _, _, _, h2, h3, _⟩, k, hk => by rw [(h2 k).1 hk]; exact getElem?_lt h3
  | .map _, ⟨b, _, _, _, h2, h3, _⟩, k, hk => by rw [(h2 k).1 hk]; exact getElem?_lt h3
  | .rmap .., ⟨b, r, _, _, _, _, _, _, _, h3, h4, h5, _⟩, k, hk => (h3 k).1 hk |>.elim (fun e => e ▸ getElem?_lt h4) (fun e => e ▸ getElem?_lt h5)
  | .iter _, h, b, hb => (h b hb).elim
theorem look_cons {α : Type} (k : Nat) (v : α) (l : List (Nat × α)) (n : Nat) : look ((k, v) :: l) n = if k = n then some v else look l n := by
  by_cases h : k = n
  · subst h; simp [lookC, Nat.beq_refl]
  · have : Nat.beq k n = false := by
      cases hb : Nat.beq k n with
      | false => rfl
      | true => exact absurd (Nat.eq_of_beq_eq_true hb) h
    simp [lookC, this, h]
theorem look_append {α : Type} (l m : List (Nat × α)) (n : Nat) : look (l ++ m) n = (look l n).or (look m n) := by
  induction l with
  | nil => simp [lookN]
  | cons p l ih =>
    obtain ⟨k, v⟩ := p
    rw [List.cons_append, look_cons, look_cons, ih]
    split <;> simp
abbrev Heap := List (Nat × Res)
abbrev Foot := Nat → Nat → Prop
structure SatH (env : Env) (H : Heap) (F : Foot) (w : World) : Prop where
  sat : ∀ {h r}, look H h = some r → ∃ v, env h = some v ∧ r.sat env v (F h) w
  apart : ∀ {h r h' r'}, look H h = some r → look H h' = some r' → h ≠ h' → r.excl = true → ∀ b, F h b → ¬ F h' b
theorem SatH.bound {env : Env} {H : Heap} {F : Foot} {w : World} (s : SatH env H F w) {h : Nat} {r : Res} (hl : look H h = some r) {b : Nat} (hb : F h b) : b < w.heap.size :=
  let ⟨_, _, hs⟩ := s.sat hl; Res.sat_bound hs b hb
theorem SatH.congr {env : Env} {H H' : Heap} {F : Foot} {w : World} (s : SatH env H F w) (hl : ∀ h, look H' h = look H h) : SatH env H' F w :=
  ⟨fun h => s.sat ((hl _).symm.trans h), fun h k => s.apart ((hl _).symm.trans h) ((hl _).symm.trans k)⟩
theorem SatH.part {env : Env} {H pre : Heap} {F : Foot} {w : World} (s : SatH env H F w) (hl : ∀ h r, look pre h = some r → look H h = some r) : SatH env pre F w :=
  ⟨fun h => s.sat (hl _ _ h), fun h k => s.apart (hl _ _ h) (hl _ _ k)⟩
theorem SatH.drew {env : Env} {H : Heap} {F : Foot} {w : World} (s : SatH env H F w) : SatH env H F { w with drawn := w.drawn + 1 } :=
  ⟨fun h => let ⟨v, hv, hs⟩ := s.sat h; ⟨v, hv, Res.sat_stable (w := w) (w' := { w with drawn := w.drawn + 1 }) (Env.le.refl _) (fun _ _ => rfl) hs⟩, s.apart⟩
def Owned (H : Heap) (F : Foot) (b : Nat) : Prop := ∃ h r, look H h = some r ∧ r.excl = true ∧ F h b
structure FrameW (X : Nat → Prop) (w w' : World) : Prop where
  os : w'.os = w.os
  tape : w'.tape = w.tape
  output : w'.output = w.output
  size : w.heap.size ≤ w'.heap.size
  block : ∀ b, b < w.heap.size → ¬ X b → w'.heap[b]? = w.heap[b]?
theorem FrameW.refl (X : Nat → Prop) (w : World) : FrameW X w w := ⟨rfl, rfl, rfl, Nat.le_refl _, fun _ _ _ => rfl⟩
theorem FrameW.trans {X Y : Nat → Prop} {a b c : World} (h : FrameW X a b) (k : FrameW Y b c) (hy : ∀ n, Y n → X n ∨ a.heap.size ≤ n) : FrameW X a c :=
  ⟨k.os.trans h.os, k.tape.trans h.tape, k.output.trans h.output, Nat.le_trans h.size k.size, fun n hn hx => by
    rw [k.block n (Nat.lt_of_lt_of_le hn h.size) (fun hyn => (hy n hyn).elim hx (by omega)), h.block n hn hx]⟩
theorem FrameW.mono {X Y : Nat → Prop} {a b : World} (h : FrameW X a b) (hy : ∀ n, X n → Y n) : FrameW Y a b :=
  ⟨h.os, h.tape, h.output, h.size, fun n hn hx => h.block n hn (fun k => hx (hy n k))⟩
structure Turn (n n' : Nat) (R pre post : Heap) (env : Env) (F : Foot) (w : World) (env' : Env) (F' : Foot) (w' : World) : Prop where
  le : env.le env'
  only : ∀ h, ¬ (n ≤ h ∧ h < n') → env' h = env h
  sat : SatH env' post F' w'
  owns : ∀ {h r b}, look post h = some r → F' h b → (∃ h0 r0, look pre h0 = some r0 ∧ F h0 b ∧ (r.excl = true → r0.excl = true)) ∨
    (∃ h0 r0, look R h0 = some r0 ∧ F h0 b ∧ r0.excl = false ∧ r.excl = false) ∨ w.heap.size ≤ b
  frame : FrameW (Owned pre F) w w'
def Sub (pre H : Heap) : Prop := ∀ h r, look pre h = some r → look H h = some r
theorem Turn.whole {n n' : Nat} {R pre post H : Heap} {env env' : Env} {F F' : Foot} {w w' : World} (t : Turn n n' R pre post env F w env' F' w')
    (s : SatH env H F w) (hR : Sub R H) (hp : Sub pre H) (hdom : ∀ h r, look pre h = some r → ∃ r', look post h = some r') :
    ∃ F'', SatH env' (post ++ H) F'' w' ∧ (∀ {h r b}, look (post ++ H) h = some r → F'' h b → (∃ h0 r0, look H h0 = some r0 ∧ F h0 b ∧ (r.excl = true → r0.excl = true)) ∨ w.heap.size ≤ b) := by
  classical
  let F'' : Foot := fun h b => if (look post h).isSome then F' h b else F h b
  have f1 : ∀ {h r}, look post h = some r → F'' h = F' h := by intro h r hl; funext b; simp [F'', hl]
  have f2 : ∀ {h}, look post h = none → F'' h = F h := by intro h hl; funext b; simp [F'', hl]
  have old : ∀ {h r}, look post h = none → look H h = some r → Agree (F h) w w' := by
    intro h r hn hl b hb
    refine t.frame.block b (s.bound hl hb) ?_
    rintro ⟨h0, r0, hl0, he0, hb0⟩
    have hne : h0 ≠ h := by
      rintro rfl
      obtain ⟨r', hr'⟩ := hdom _ _ hl0
      rw [hn] at hr'; cases hr'
    exact s.apart (hp _ _ hl0) hl hne he0 b hb0 hb
  have spl : ∀ {h r}, look (post ++ H) h = some r → (look post h = some r) ∨ (look post h = none ∧ look H h = some r) := by
    intro h r hl
    rw [look_append] at hl
    cases hq : look post h with
    | some x => rw [hq] at hl; simp at hl; exact .inl (by rw [hl])
    | none => rw [hq] at hl; simp at hl; exact .inr ⟨rfl, hl⟩
  refine ⟨F'', ⟨?_, ?_⟩, ?_⟩
  · intro h r hl
    rcases spl hl with hq | ⟨hn, hl⟩
    · obtain ⟨v, hv, hs⟩ := t.sat.sat hq
      exact ⟨v, hv, by rw [f1 hq]; exact hs⟩
    · obtain ⟨v, hv, hs⟩ := s.sat hl
      exact ⟨v, t.le _ _ hv, by rw [f2 hn]; exact Res.sat_stable t.le (old hn hl) hs⟩
  · intro h r h' r' hl hl' hne he b hb hb'
    rcases spl hl with hq | ⟨hn, hl⟩ <;> rcases spl hl' with hq' | ⟨hn', hl'⟩
    · rw [f1 hq] at hb; rw [f1 hq'] at hb'
      exact t.sat.apart hq hq' hne he b hb hb'
    · rw [f1 hq] at hb; rw [f2 hn'] at hb'
      rcases t.owns hq hb with ⟨h0, r0, hl0, hb0, hx⟩ | ⟨_, _, _, _, _, hx⟩ | hge
      · have hne' : h0 ≠ h' := by
          rintro rfl
          obtain ⟨r2, hr2⟩ := hdom _ _ hl0
          rw [hn'] at hr2; cases hr2
        exact s.apart (hp _ _ hl0) hl' hne' (hx he) b hb0 hb'
      · rw [he] at hx; cases hx
      · exact absurd (s.bound hl' hb') (by omega)
    · rw [f2 hn] at hb; rw [f1 hq'] at hb'
      rcases t.owns hq' hb' with ⟨h0, r0, hl0, hb0, _⟩ | ⟨h0, r0, hl0, hb0, h0n, _⟩ | hge
      · have hne' : h ≠ h0 := by
          rintro rfl
          obtain ⟨r2, hr2⟩ := hdom _ _ hl0
          rw [hn] at hr2; cases hr2
        exact s.apart hl (hp _ _ hl0) hne' he b hb hb0
      · have hne' : h ≠ h0 := by
          rintro rfl
          rw [hR _ _ hl0] at hl; cases hl; rw [he] at h0n; cases h0n
        exact s.apart hl (hR _ _ hl0) hne' he b hb hb0
      · exact absurd (s.bound hl hb) (by omega)
    · rw [f2 hn] at hb; rw [f2 hn'] at hb'
      exact s.apart hl hl' hne he b hb hb'
  · intro h r b hl hb
    rcases spl hl with hq | ⟨hn, hl⟩
    · rw [f1 hq] at hb
      rcases t.owns hq hb with ⟨h0, r0, hl0, hb0, hx⟩ | ⟨h0, r0, hl0, hb0, _, hx⟩ | hge
      · exact .inl ⟨h0, r0, hp _ _ hl0, hb0, hx⟩
      · exact .inl ⟨h0, r0, hR _ _ hl0, hb0, fun he => by rw [he] at hx; cases hx⟩
      · exact .inr hge
    · rw [f2 hn] at hb
      exact .inl ⟨h, r, hl, hb, id⟩
end
end Go.SX
namespace Go.SX
noncomputable section
abbrev Fr := List (Nat × AV)
inductive Df where
  | call (f : FuncId) (vs : List AV)
  | mark (h : Nat)
structure St where
  fr : Fr
  H : Heap
  n : Nat
  sz : Nat
  df : List Df
  log : List (List Nat × List Nat)
  b : Nat
def DenD (env : Env) : List Df → List Deferred → Prop
  | [], ds => ds = []
  | .call f l :: r, ds => ∃ d t, ds = d :: t ∧ (∃ cap xs, d = { target := .fn (.func f) cap, args := xs } ∧ Dens env l (xs ++ cap).toList) ∧ DenD env r t
  | .mark h :: r, ds => ∃ d t, ds = d :: t ∧ (∃ b, d = { target := .collected b, args := #[] } ∧ env h = some (.pointer (some ⟨b, 0, none⟩))) ∧ DenD env r t
theorem DenD.mono {e e' : Env} (hle : e.le e') : ∀ {l : List Df} {ds : List Deferred}, DenD e l ds → DenD e' l ds
  | [], _, h => h
  | .call _ l :: _, _, ⟨d, t, h1, ⟨c, xs, h2, h3⟩, h4⟩ => ⟨d, t, h1, ⟨c, xs, h2, Dens.mono hle l h3⟩, DenD.mono hle h4⟩
  | .mark _ :: _, _, ⟨d, t, h1, ⟨b, h2, h3⟩, h4⟩ => ⟨d, t, h1, ⟨b, h2, hle _ _ h3⟩, DenD.mono hle h4⟩
def DenF (env : Env) (fr : Fr) (a : Act) : Prop := ∀ t v, look fr t = some v → ∃ x, a.tmps[t]? = some x ∧ Den env v x
structure SatS (env : Env) (s : St) (F : Foot) (a : Act) (w : World) : Prop where
  size : a.tmps.size = s.sz
  defers : DenD env s.df a.defers
  val : DenF env s.fr a
  heap : SatH env s.H F w
  fresh : ∀ h, s.n ≤ h → env h = none
structure Since (X Y : Nat → Prop) (w0 : World) (H : Heap) (F : Foot) (w : World) : Prop where
  frame : FrameW X w0 w
  own : ∀ h r b, look H h = some r → F h b → X b ∨ w0.heap.size ≤ b ∨ (r.excl = false ∧ Y b)
theorem Since.owned {X Y : Nat → Prop} {w0 w : World} {H : Heap} {F : Foot} (s : Since X Y w0 H F w) : ∀ b, Owned H F b → X b ∨ w0.heap.size ≤ b := by
  rintro b ⟨h, r, h1, h2, h3⟩
  rcases s.own h r b h1 h3 with h4 | h4 | ⟨h4, _⟩
  · exact .inl h4
  · exact .inr h4
  · rw [h2] at h4; cases h4
theorem Since.congr {X Y : Nat → Prop} {w0 w : World} {H H' : Heap} {F : Foot} (s : Since X Y w0 H F w) (hl : ∀ h, look H' h = look H h) : Since X Y w0 H' F w :=
  ⟨s.frame, fun h r b h1 h2 => s.own h r b ((hl _).symm.trans h1) h2⟩
def Triple (P : Program) (o : Oper) (fr : Fr) (R pre : Heap) (n n' : Nat) (val : AV) (post : Heap) : Prop :=
  ∀ (env : Env) (F : Foot) (a : Act) (w : World) (next : Act → World → Prop) (Q : Exit → Act → World → Prop),
    (∀ t ∈ opTmps o, ∀ v, look fr t = some v → ∃ x, a.tmps[t]? = some x ∧ Den env v x) →
    SatH env (pre ++ R) F w → (∀ h, n ≤ h → h < n' → env h = none) →
    (∀ env' F' x w', Turn n n' R pre post env F w env' F' w' → Den env' val x → next (a.put o.dst x) w') →
    o.wp P a w next Q
theorem put_defers {a : Act} {dst : Option Tmp} {x : Value} : (a.put dst x).defers = a.defers := by cases dst <;> rfl
theorem Triple.nd {P : Program} {o : Oper} {fr : Fr} {R pre post : Heap} {n n' : Nat} {val : AV} (t : Triple P o fr R pre n n' val post) {env : Env} {F : Foot} {a : Act} {w : World}
    (h1 : ∀ t ∈ opTmps o, ∀ v, look fr t = some v → ∃ x, a.tmps[t]? = some x ∧ Den env v x) (h2 : SatH env (pre ++ R) F w) (h3 : ∀ h, n ≤ h → h < n' → env h = none) : ∀ c, o.op ≠ .defer c := by
  intro c ho
  have h := t env F a w (fun a' _ => a'.defers = a.defers) (fun _ _ _ => False) h1 h2 h3 (fun _ _ _ _ _ _ => put_defers)
  unfold Oper.wp at h
  simp only [execOp, ho, Sem.run_bind] at h
  cases hr : (resolve a.eval c o.type).run P w with
  | ok d w' =>
    simp only [hr, Result.andThen_ok, Sem.run_pure, Oper.upon] at h
    rw [put_defers] at h
    have := congrArg List.length h
    simp at this
  | halt x w' =>
    simp only [hr, Result.andThen] at h
    cases x <;> simp only [Oper.upon] at h
def TripleY (P : Program) (o : Oper) (fr : Fr) (R pre : Heap) (n n' : Nat) (val : AV) (post : Heap) : Prop :=
  ∀ (ro : Option Nat) (env : Env) (F : Foot) (a : Act) (w : World) (next : Act → World → Prop) (Q : Exit → Act → World → Prop),
    (∀ t ∈ opTmps o, ∀ v, look fr t = some v → ∃ x, a.tmps[t]? = some x ∧ Den env v x) →
    SatH env (pre ++ R) F w → (∀ h, n ≤ h → h < n' → env h = none) →
    (∀ env' F' x w', Turn n n' R pre post env F w env' F' w' → Den env' val x → next (a.put o.dst x) w') →
    o.wpIn (Wd ro) 0 P a w next Q
theorem Triple.y {P : Program} {o : Oper} {fr : Fr} {R pre post : Heap} {n n' : Nat} {val : AV} (t : Triple P o fr R pre n n' val post) : TripleY P o fr R pre n n' val post :=
  fun _ env F a w next Q h1 h2 h3 h4 => op_wd (.inl (t.nd h1 h2 h3)) (t env F a w next Q h1 h2 h3 h4)
structure Rec where
  run : Bool
  R : Heap
  pre : Heap
  post : Heap
  n : Nat
  n' : Nat
  val : AV
  rd : List Nat
  wr : List Nat
def upF (o : Oper) (r : Rec) : Fr := match o.dst with | some d => [(d, r.val)] | none => []
def St.app (s : St) (o : Oper) (r : Rec) : St := { s with fr := upF o r ++ s.fr, H := r.post ++ s.H, n := r.n', log := (r.rd, r.wr) :: s.log }
def rawBool : Value → Option Bool
  | .bool b => some b
  | _ => none
def guardV (all : Array Oper) (fr : Fr) (o : Oper) : Option Bool :=
  match o.guard with
  | none => some true
  | some (j, want) =>
    match (all[j]?).bind (·.dst) with
    | none => some false
    | some d => match look fr d with
      | some (.bool b) => some (b == want)
      | some (.raw v) => some (rawBool v == some want)
      | _ => none
structure RecOK (P : Program) (all : Array Oper) (sz : Nat) (o : Oper) (fr : Fr) (H : Heap) (r : Rec) : Prop where
  dst : ∀ d, o.dst = some d → d < sz
  guard : guardV all fr o = some r.run
  nle : r.n ≤ r.n'
  skip : r.run = false → r.val = .raw undef ∧ r.post = []
  op : r.run = true → TripleY P o fr r.R r.pre r.n r.n' r.val r.post
  subR : r.run = true → Sub r.R H
  subp : r.run = true → Sub r.pre H
  dom : ∀ h x, look r.pre h = some x → ∃ x', look r.post h = some x'
  rds : ∀ h x, look r.R h = some x → h ∈ r.rd
  wrs : ∀ h x, look r.post h = some x → h ∈ r.wr
theorem tmps_put {a : Act} {dst : Option Tmp} {x : Value} : (a.put dst x).tmps.size = a.tmps.size := by
  cases dst <;> simp [Act.put]
theorem guard_ok {all : Array Oper} {env : Env} {fr : Fr} {o : Oper} {a : Act} {g : Bool}
    (hv : ∀ d, (∃ j w, o.guard = some (j, w) ∧ (all[j]?).bind (·.dst) = some d) → ∀ v, look fr d = some v → ∃ x, a.tmps[d]? = some x ∧ Den env v x)
    (h : guardV all fr o = some g) : Region.wanted o (yielded all a.tmps) = g := by
  unfold guardV at h
  unfold Region.wanted
  cases hg : o.guard with
  | none => rw [hg] at h; simpa using h
  | some p =>
    obtain ⟨j, want⟩ := p
    rw [hg] at h
    simp only at h ⊢
    unfold yielded
    cases hd : (all[j]?).bind (·.dst) with
    | none => rw [hd] at h; simp at h; simp [h]
    | some d =>
      rw [hd] at h
      simp only [Option.bind_some] at h ⊢
      cases hl : look fr d with
      | none => rw [hl] at h; simp at h
      | some v =>
        rw [hl] at h
        obtain ⟨x, hx, hden⟩ := hv d ⟨j, want, hg, hd⟩ v hl
        rw [hx]
        cases v <;> simp at h
        · simp only [Den] at hden; subst hden; simpa using h
        · simp only [Den] at hden; subst hden
          rw [← h]
          cases x <;> rfl
theorem step_ok {P : Program} {ro : Option Nat} {all : Array Oper} {sz : Nat} {o : Oper} {r : Rec} {fr fr' : Fr} {H H' : Heap} {env : Env} {F : Foot} {a : Act} {w w0 : World} {X Y : Nat → Prop}
    {K : Act → World → Prop} {Q : Exit → Act → World → Prop} {df : List Df}
    (hr : RecOK P all sz o fr H r)
    (hsz : a.tmps.size = sz) (hdf : DenD env df a.defers) (hval : DenF env fr' a) (hheap : SatH env H' F w) (hs : Since X Y w0 H' F w)
    (hT : ∀ t, (t ∈ opTmps o ∨ ∃ j w, o.guard = some (j, w) ∧ (all[j]?).bind (·.dst) = some t) → look fr' t = look fr t)
    (hH : ∀ h, (h ∈ r.rd ∨ h ∈ r.wr) → look H h ≠ none → look H' h = look H h)
    (hfresh : ∀ h, r.n ≤ h → h < r.n' → env h = none)
    (hK : ∀ env' F' a' w', env.le env' → (∀ h, ¬ (r.n ≤ h ∧ h < r.n') → env' h = env h) → a'.tmps.size = sz → DenD env' df a'.defers → DenF env' (upF o r ++ fr') a' →
      SatH env' (r.post ++ H') F' w' → Since X Y w0 (r.post ++ H') F' w' → K a' w') :
    if Region.wanted o (yielded all a.tmps) then o.wpIn (Wd ro) 0 P a w K Q else (∀ f, o.about P w a.eval = some f → (Wd ro).fn f) ∧ K (a.put o.dst undef) w := by
  have hw : Region.wanted o (yielded all a.tmps) = r.run :=
    guard_ok (fun d hd v hl => hval d v ((hT d (.inr hd)).trans hl)) hr.guard
  have hput : ∀ {env' : Env} {x : Value}, env.le env' → Den env' r.val x → DenF env' (upF o r ++ fr') (a.put o.dst x) := by
    intro env' x hle hx t v hl
    cases hd : o.dst with
    | none =>
      have hl' : look fr' t = some v := by simpa [upF, hd] using hl
      obtain ⟨y, hy, hden⟩ := hval t v hl'
      exact ⟨y, by simpa [Act.put] using hy, Den.mono hle v hden⟩
    | some d =>
      simp only [upF, hd, List.singleton_append, look_cons] at hl
      have hlt := hr.dst d hd
      split at hl
      · rename_i he
        subst he
        cases hl
        exact ⟨x, by simp [Act.put, hsz, hlt], hx⟩
      · rename_i hne
        obtain ⟨y, hy, hden⟩ := hval t v hl
        exact ⟨y, by simpa [Act.put, Array.getElem?_setIfInBounds_ne hne] using hy, Den.mono hle v hden⟩
  have hdp : ∀ {x : Value}, (a.put o.dst x).defers = a.defers := by intro x; cases o.dst <;> rfl
  rw [hw]
  cases hrun : r.run with
  | false =>
    simp only [Bool.false_eq_true, if_false]
    obtain ⟨hv, hp⟩ := hr.skip hrun
    refine ⟨fun _ _ => trivial, ?_⟩
    refine hK env F _ w (Env.le.refl _) (fun _ _ => rfl) (by rw [tmps_put]; exact hsz) (by rw [hdp]; exact hdf) (hput (Env.le.refl _) ?_) ?_ ?_
    · rw [hv]; simp only [Den]
    · rw [hp]; exact hheap
    · rw [hp]; exact hs
  | true =>
    simp only [if_true]
    have hsubR : Sub r.R H' := fun h x hl => by
      have h1 := hr.subR hrun h x hl
      rw [hH h (.inl (hr.rds h x hl)) (by rw [h1]; simp)]; exact h1
    have hsubp : Sub r.pre H' := fun h x hl => by
      obtain ⟨x', hx'⟩ := hr.dom h x hl
      have h1 := hr.subp hrun h x hl
      rw [hH h (.inr (hr.wrs h x' hx')) (by rw [h1]; simp)]; exact h1
    have hneed : ∀ t ∈ opTmps o, ∀ v, look fr t = some v → ∃ x, a.tmps[t]? = some x ∧ Den env v x := fun t ht v hl => hval t v ((hT t (.inl ht)).trans hl)
    have hpart : SatH env (r.pre ++ r.R) F w := by
      refine hheap.part ?_
      intro h x hl
      rw [look_append] at hl
      cases hq : look r.pre h with
      | some y => rw [hq] at hl; simp at hl; subst hl; exact hsubp _ _ hq
      | none => rw [hq] at hl; simp at hl; exact hsubR _ _ hl
    refine hr.op hrun ro env F a w K Q hneed hpart hfresh ?_
    · intro env' F' x w' ht hx
      obtain ⟨F'', hs1, hs2⟩ := ht.whole hheap hsubR hsubp hr.dom
      refine hK env' F'' _ w' ht.le ht.only (by rw [tmps_put]; exact hsz) (by rw [hdp]; exact DenD.mono ht.le hdf) (hput ht.le hx) hs1 ⟨?_, ?_⟩
      · refine hs.frame.trans ht.frame ?_
        rintro b ⟨h, r0, h1, h2, h3⟩
        exact hs.owned b ⟨h, r0, hsubp _ _ h1, h2, h3⟩
      · intro h r0 b h1 h3
        rcases hs2 h1 h3 with ⟨h0, q0, g1, g2, g3⟩ | h4
        · rcases hs.own h0 q0 b g1 g2 with h5 | h5 | ⟨h5, h6⟩
          · exact .inl h5
          · exact .inr (.inl h5)
          · refine .inr (.inr ⟨?_, h6⟩)
            cases he : r0.excl with
            | false => rfl
            | true => rw [g3 he] at h5; cases h5
        · exact .inr (.inl (Nat.le_trans hs.frame.size h4))
inductive Run (P : Program) (all : Array Oper) : List Oper → St → List Rec → St → Prop
  | nil {s : St} : Run P all [] s [] s
  | cons {o : Oper} {l : List Oper} {s s' : St} {r : Rec} {rs : List Rec} (hr : RecOK P all s.sz o s.fr s.H r) (hn : r.n = s.n) (h : Run P all l (s.app o r) rs s') : Run P all (o :: l) s (r :: rs) s'
structure Ext (n : Nat) (e e' : Env) : Prop where
  le : e.le e'
  old : ∀ h, h < n → e' h = e h
theorem Ext.refl (n : Nat) (e : Env) : Ext n e e := ⟨Env.le.refl _, fun _ _ => rfl⟩
theorem Ext.trans {n m : Nat} {a b c : Env} (h : Ext n a b) (k : Ext m b c) (hm : n ≤ m) : Ext n a c :=
  ⟨h.le.trans k.le, fun x hx => (k.old x (by omega)).trans (h.old x hx)⟩
end
end Go.SX
namespace Go.SX
noncomputable section
section over
variable {α : Type}
def over (U : Nat → List (Nat × α)) (D : Nat → Bool) : Nat → List (Nat × α)
  | 0 => []
  | m + 1 => (if D m then U m else []) ++ over U D m
theorem over_congr {U : Nat → List (Nat × α)} {D D' : Nat → Bool} : ∀ {m : Nat}, (∀ j, j < m → D j = D' j) → over U D m = over U D' m
  | 0, _ => rfl
  | m + 1, h => by
    have ih := over_congr (fun j hj => h j (by omega) : ∀ j, j < m → D j = D' j) (U := U)
    simp only [over, h m (by omega), ih]
theorem over_agree {U : Nat → List (Nat × α)} {D D' : Nat → Bool} {k : Nat} : ∀ {m : Nat}, (∀ j, j < m → look (U j) k ≠ none → D j = D' j) → look (over U D m) k = look (over U D' m) k
  | 0, _ => rfl
  | m + 1, h => by
    have ih := over_agree (fun j hj => h j (by omega) : ∀ j, j < m → look (U j) k ≠ none → D j = D' j)
    simp only [over, look_append, ih]
    cases hu : look (U m) k with
    | none => cases D m <;> cases D' m <;> simp [lookN, hu]
    | some v => rw [h m (by omega) (by simp [hu])]
theorem over_lt {U : Nat → List (Nat × α)} {i : Nat} : ∀ {m : Nat}, i ≤ m → over U (fun j => decide (j < i)) m = over U (fun _ => true) i
  | 0, h => by have : i = 0 := by omega
               subst this; rfl
  | m + 1, h => by
    by_cases hi : i = m + 1
    · subst hi; exact over_congr fun j hj => by simp [hj]
    · have : ¬ m < i := by omega
      simp only [over, decide_eq_true_eq, this, if_false, List.nil_append]
      exact over_lt (by omega)
theorem over_insert {U : Nat → List (Nat × α)} {D D' : Nat → Bool} {i k : Nat} (hD : D i = false) (hi : D' i = true) (ho : ∀ j, j ≠ i → D' j = D j) : ∀ {m : Nat}, i < m →
    (∀ j, i < j → j < m → D j = true → look (U i) k ≠ none → look (U j) k = none) → look (over U D' m) k = (look (U i) k).or (look (over U D m) k)
  | 0, h, _ => by omega
  | m + 1, h, hc => by
    by_cases hm : i = m
    · subst hm
      simp only [over, hD, hi, if_true, Bool.false_eq_true, if_false, List.nil_append, look_append]
      rw [over_congr (fun j hj => ho j (by omega))]
    · have ih := over_insert hD hi ho (m := m) (by omega) (fun j h1 h2 => hc j h1 (by omega))
      simp only [over, look_append, ih, ho m (by omega)]
      cases hd : D m with
      | false => simp [lookN]
      | true =>
        cases hu : look (U i) k with
        | none => simp
        | some v => simp [hc m (by omega) (by omega) hd (by simp [hu])]
end over
theorem mem_looks {all : Array Oper} {o : Oper} {t : Nat} (h : t ∈ opTmps o ∨ ∃ j w, o.guard = some (j, w) ∧ (all[j]?).bind (·.dst) = some t) : t ∈ looks all o := by
  unfold looks
  rcases h with h | ⟨j, w, hg, hd⟩
  · exact List.mem_append_left _ h
  · refine List.mem_append_right _ ?_
    simp [hg, hd]
def Closed (all : Array Oper) (D : Nat → Bool) : Prop := ∀ k o, D k = true → all[k]? = some o → ∀ e ∈ o.after.toList, Region.binds .any e = true → D e.on = true
def Anc (all : Array Oper) (i j : Nat) : Prop :=
  ∀ D, Closed all D → (∀ o, all[j]? = some o → ∀ e ∈ o.after.toList, Region.binds .any e = true → D e.on = true) → D i = true
structure Ordered (all : Array Oper) (rs : List Rec) : Prop where
  back : ∀ (i : Nat) (o : Oper), all[i]? = some o → ∀ e ∈ o.after.toList, Region.binds .any e = true → e.on < i
  tmps : ∀ (i j : Nat) (o p : Oper) (t : Nat), i < j → all[i]? = some o → all[j]? = some p → ((o.dst = some t ∧ (t ∈ looks all p ∨ p.dst = some t)) ∨ (p.dst = some t ∧ t ∈ looks all o)) → Anc all i j
  hds : ∀ (i j : Nat) (r q : Rec) (h : Nat), i < j → rs[i]? = some r → rs[j]? = some q → ((h ∈ r.wr ∧ (h ∈ q.rd ∨ h ∈ q.wr)) ∨ (h ∈ r.rd ∧ h ∈ q.wr)) → Anc all i j
def UF (ops : List Oper) (rs : List Rec) (j : Nat) : Fr :=
  match ops[j]?, rs[j]? with
  | some o, some r => upF o r
  | _, _ => []
def UH (rs : List Rec) (j : Nat) : Heap :=
  match rs[j]? with
  | some r => r.post
  | none => []
theorem over_shift {α : Type} {U V : Nat → List (Nat × α)} (h : ∀ j, V (j + 1) = U j) : ∀ m, over V (fun _ => true) (m + 1) = over U (fun _ => true) m ++ V 0
  | 0 => by simp [over]
  | m + 1 => by
    rw [over, over_shift h m, over]
    simp [h]
theorem Run.facts {P : Program} {all : Array Oper} {ops : List Oper} {s s' : St} {rs : List Rec} (h : Run P all ops s rs s') :
    rs.length = ops.length ∧ s'.sz = s.sz ∧ s'.df = s.df ∧ s'.b = s.b ∧ s.n ≤ s'.n ∧
    s'.fr = over (UF ops rs) (fun _ => true) ops.length ++ s.fr ∧ s'.H = over (UH rs) (fun _ => true) ops.length ++ s.H ∧
    (∀ (i : Nat) (r : Rec), rs[i]? = some r → s.n ≤ r.n ∧ r.n ≤ r.n' ∧ r.n' ≤ s'.n) ∧
    (∀ (i j : Nat) (r q : Rec), i < j → rs[i]? = some r → rs[j]? = some q → r.n' ≤ q.n) ∧
    (∀ (i : Nat) (o : Oper) (r : Rec), ops[i]? = some o → rs[i]? = some r → RecOK P all s.sz o (over (UF ops rs) (fun _ => true) i ++ s.fr) (over (UH rs) (fun _ => true) i ++ s.H) r) ∧
    s'.log = (rs.map fun r => (r.rd, r.wr)).reverse ++ s.log := by
  induction h with
  | nil => simp [over]
  | @cons o l s s' r rs hr hn h ih =>
    obtain ⟨h1, h2, h3, hb, h4, h5, h6, h7, h8, h9, h10⟩ := ih
    have hnle := hr.nle
    have e1 : ∀ m, over (UF (o :: l) (r :: rs)) (fun _ => true) (m + 1) = over (UF l rs) (fun _ => true) m ++ upF o r := fun m => by
      rw [over_shift (U := UF l rs) (fun j => by simp [UF])]; simp [UF]
    have e2 : ∀ m, over (UH (r :: rs)) (fun _ => true) (m + 1) = over (UH rs) (fun _ => true) m ++ r.post := fun m => by
      rw [over_shift (U := UH rs) (fun j => by simp [UH])]; simp [UH]
    simp only [St.app] at h2 h3 hb h4 h5 h6 h7 h9 h10
    refine ⟨by simp [h1], h2, h3, hb, by omega, ?_, ?_, ?_, ?_, ?_, ?_⟩
    · rw [List.length_cons, e1, h5]; simp
    · rw [List.length_cons, e2, h6]; simp
    · intro i q hq
      cases i with
      | zero => simp at hq; subst hq; exact ⟨by omega, hnle, h4⟩
      | succ i => simp at hq; have := h7 i q hq; exact ⟨by omega, this.2⟩
    · intro i j q p hij hq hp
      cases j with
      | zero => omega
      | succ j =>
        simp at hp
        cases i with
        | zero => simp at hq; subst hq; exact (h7 j p hp).1
        | succ i => simp at hq; exact h8 i j q p (by omega) hq hp
    · intro i p q hp hq
      cases i with
      | zero => simp at hp hq; subst hp; subst hq; simpa [over] using hr
      | succ i =>
        simp at hp hq
        rw [e1, e2]
        have := h9 i p q hp hq
        simpa using this
    · rw [h10]; simp
def cnt (D : Nat → Bool) : Nat → Nat
  | 0 => 0
  | m + 1 => cnt D m + (if D m then 0 else 1)
theorem cnt_zero {D : Nat → Bool} : ∀ {m : Nat}, cnt D m = 0 → ∀ j, j < m → D j = true
  | 0, _, j, hj => by omega
  | m + 1, h, j, hj => by
    simp only [cnt] at h
    by_cases hjm : j = m
    · subst hjm
      cases hd : D j with
      | true => rfl
      | false => rw [hd] at h; simp at h
    · exact cnt_zero (m := m) (by omega) j (by omega)
theorem cnt_congr {D D' : Nat → Bool} : ∀ {m : Nat}, (∀ j, j < m → D' j = D j) → cnt D' m = cnt D m
  | 0, _ => rfl
  | m + 1, h => by
    have ih := cnt_congr (fun j hj => h j (by omega) : ∀ j, j < m → D' j = D j)
    simp only [cnt, h m (by omega), ih]
theorem cnt_insert {D D' : Nat → Bool} {i : Nat} (hD : D i = false) (hi : D' i = true) (ho : ∀ j, j ≠ i → D' j = D j) : ∀ {m : Nat}, i < m → cnt D m = cnt D' m + 1
  | 0, h => by omega
  | m + 1, h => by
    by_cases hm : i = m
    · subst hm
      have := cnt_congr (m := i) (fun j hj => ho j (by omega))
      simp only [cnt, hD, hi, this]; simp
    · have := cnt_insert hD hi ho (m := m) (by omega)
      simp only [cnt, ho m (by omega), this]; omega
theorem draw_sound {P : Program} {ro : Option Nat} {id : Nat} {all : Array Oper} {Q : Exit → Act → World → Prop} {X Y : Nat → Prop} {w0 : World} {s s' : St} {rs : List Rec}
    (hm : P.follows .mixedOrders = true) (h : Run P all all.toList s rs s') (hord : Ordered all rs)
    {env : Env} {F : Foot} {a : Act} {w : World} (hs : SatS env s F a w) (hsi : Since X Y w0 s.H F w)
    (hq : ∀ env' F' a' w', Ext s.n env env' → SatS env' s' F' a' w' → Since X Y w0 s'.H F' w' → Q .normal a' w') : (Code.region id all true).wpIn (Wd ro) 0 P Q a w := by
  obtain ⟨hlen, hsz, hdf, _, hnn, hfr, hH, hns, hdis, hrec, -⟩ := h.facts
  have hget : ∀ i : Nat, all.toList[i]? = all[i]? := fun i => Array.getElem?_toList
  refine wpIn_region_any hm ?_
  generalize hmm : all.size = m
  have hlen' : rs.length = m := by simpa [← hmm] using hlen
  have key : ∀ (fuel : Nat) (listed : Array Bool) (env1 : Env) (F : Foot) (a : Act) (w : World), listed.size = m →
      cnt (fun j => listed.getD j false) m ≤ fuel → Closed all (fun j => listed.getD j false) → Ext s.n env env1 →
      a.tmps.size = s.sz → DenD env1 s.df a.defers → DenF env1 (over (UF all.toList rs) (fun j => listed.getD j false) m ++ s.fr) a →
      SatH env1 (over (UH rs) (fun j => listed.getD j false) m ++ s.H) F w → Since X Y w0 (over (UH rs) (fun j => listed.getD j false) m ++ s.H) F w →
      (∀ h, s.n ≤ h → (∀ (j : Nat) (r : Rec), rs[j]? = some r → r.n ≤ h → h < r.n' → listed.getD j false = false) → env1 h = none) →
      wpAnyIn (Wd ro) 0 P .any all Q fuel listed a w := by
    intro fuel
    induction fuel with
    | zero =>
      intro listed env1 F a w hls hc hcl hle h1 h2 h3 h4 h5 h6
      have hall : ∀ j, j < m → listed.getD j false = true := cnt_zero (by omega)
      have eF : over (UF all.toList rs) (fun j => listed.getD j false) m = over (UF all.toList rs) (fun _ => true) m := over_congr hall
      have eH : over (UH rs) (fun j => listed.getD j false) m = over (UH rs) (fun _ => true) m := over_congr hall
      have hlm : all.toList.length = m := by simpa using hmm
      refine ⟨?_, ?_⟩
      · simp only [Region.ready, List.filter_eq_nil_iff]
        intro i hi
        have : i < m := by simpa [hmm] using hi
        have h' := hall i this
        have : listed.getD i true = true := by
          have hi' : i < listed.size := by omega
          simp only [Array.getD, hi', dite_true] at h' ⊢
          exact h'
        simp [this]
      · refine hq env1 F a w hle ⟨by rw [hsz]; exact h1, by rw [hdf]; exact h2, by rw [hfr, hlm, ← eF]; exact h3, by rw [hH, hlm, ← eH]; exact h4, ?_⟩ (by rw [hH, hlm, ← eH]; exact h5)
        intro h hh
        refine h6 h (by omega) ?_
        intro j r hj hr1 hr2
        have := hns j r hj; omega
    | succ fuel ih =>
      intro listed env1 F a w hls hc hcl hle h1 h2 h3 h4 h5 h6
      refine ⟨?_, ?_⟩
      · intro hnil
        have hall : ∀ j, j < m → listed.getD j false = true := by
          intro j
          induction j using Nat.strongRecOn with
          | _ j ihj =>
            intro hj
            rcases Bool.eq_false_or_eq_true (listed.getD j false) with hd | hd
            · exact hd
            · exfalso
              have hjs : j < all.size := by omega
              have hmem : j ∈ Region.ready .any all listed := by
                simp only [Region.ready, List.mem_filter, List.mem_range]
                refine ⟨hjs, ?_⟩
                have hja : all[j]? = some all[j] := by simp [hjs]
                have h' : listed.getD j true = false := by
                  have hi' : j < listed.size := by omega
                  simp only [Array.getD, hi', dite_true] at hd ⊢
                  exact hd
                simp only [hja, Option.map_some, Option.getD_some, h', Bool.not_false, Bool.true_and]
                rw [Array.all_eq_true']
                intro e he
                have he' : e ∈ all[j].after.toList := Array.mem_toList_iff.2 he
                cases hb : Region.binds .any e with
                | false => simp
                | true =>
                  have := hord.back j _ hja e he' hb
                  simp [ihj e.on this (by omega)]
              rw [hnil] at hmem
              cases hmem
        have hc0 : cnt (fun j => listed.getD j false) m = 0 := by
          rw [cnt_congr (D := fun _ => true) (fun j hj => hall j hj)]
          clear ih hc hall hls hcl h3 h4 h5 h6 hnil hrec hfr hH hlen hlen' hmm hns hdis
          induction m with
          | zero => rfl
          | succ m ih => simp [cnt, ih]
        have eF : over (UF all.toList rs) (fun j => listed.getD j false) m = over (UF all.toList rs) (fun _ => true) m := over_congr hall
        have eH : over (UH rs) (fun j => listed.getD j false) m = over (UH rs) (fun _ => true) m := over_congr hall
        have hlm : all.toList.length = m := by simpa using hmm
        refine hq env1 F a w hle ⟨by rw [hsz]; exact h1, by rw [hdf]; exact h2, by rw [hfr, hlm, ← eF]; exact h3, by rw [hH, hlm, ← eH]; exact h4, ?_⟩ (by rw [hH, hlm, ← eH]; exact h5)
        intro h hh
        refine h6 h (by omega) ?_
        intro j r hj hr1 hr2
        have := hns j r hj; omega
      · intro i hi
        simp only [Region.ready, List.mem_filter, List.mem_range, Bool.and_eq_true, Bool.not_eq_true'] at hi
        obtain ⟨his, hil, hie⟩ := hi
        have him : i < m := by omega
        have hia : all[i]? = some all[i] := by simp [his]
        generalize ho : all[i] = o at hia
        rw [hia] at hie
        simp only [Option.map_some, Option.getD_some] at hie
        rw [Array.all_eq_true'] at hie
        have hir : ∃ r, rs[i]? = some r := ⟨rs[i], by simp [hlen', him]⟩
        obtain ⟨r, hr⟩ := hir
        have hok := hrec i o r ((hget i).trans hia) hr
        have hDi : listed.getD i false = false := by
          have hi' : i < listed.size := by omega
          simp only [Array.getD, hi', dite_true] at hil ⊢
          exact hil
        have hedge : ∀ p, all[i]? = some p → ∀ e ∈ p.after.toList, Region.binds .any e = true → listed.getD e.on false = true := by
          intro p hp e he hb
          rw [hia] at hp; cases hp
          have := hie e (Array.mem_toList_iff.1 he)
          simpa [hb] using this
        have hset : ∀ j, j ≠ i → (Anc all j i ∧ j < i ∨ Anc all i j ∧ i < j) → (fun j => listed.getD j false) j = decide (j < i) := by
          rintro j hne (⟨ha, hlt⟩ | ⟨ha, hlt⟩)
          · simp only [hlt, decide_true]; exact ha _ hcl hedge
          · have : ¬ j < i := by omega
            simp only [this, decide_false]
            rcases Bool.eq_false_or_eq_true (listed.getD j false) with hd | hd
            · have := ha (fun j => listed.getD j false) hcl (fun p hp e he hb => hcl j p hd hp e he hb)
              simp only [hDi] at this; cases this
            · exact hd
        have hUF : ∀ j t, j < m → look (UF all.toList rs j) t ≠ none → ∃ p q, all[j]? = some p ∧ rs[j]? = some q ∧ p.dst = some t := by
          intro j t hj hl
          unfold UF at hl
          rw [hget] at hl
          cases hp : all[j]? with
          | none => rw [hp] at hl; simp [lookN] at hl
          | some p =>
            cases hq : rs[j]? with
            | none => rw [hp, hq] at hl; simp [lookN] at hl
            | some q =>
              rw [hp, hq] at hl
              cases hd : p.dst with
              | none => simp [upF, hd, lookN] at hl
              | some d =>
                simp only [upF, hd, look_cons, lookN] at hl
                have hdt : d = t := by
                  by_cases hdt : d = t
                  · exact hdt
                  · simp [hdt] at hl
                exact ⟨p, q, rfl, rfl, by rw [hd, hdt]⟩
        have hUH : ∀ j h, look (UH rs j) h ≠ none → ∃ q, rs[j]? = some q ∧ h ∈ q.wr ∧ j < m := by
          intro j h hl
          unfold UH at hl
          cases hq : rs[j]? with
          | none => rw [hq] at hl; simp [lookN] at hl
          | some q =>
            rw [hq] at hl
            cases hx : look q.post h with
            | none => simp [hx] at hl
            | some x =>
              have hjm : j < m := by
                rw [← hlen']
                rcases Nat.lt_or_ge j rs.length with h' | h'
                · exact h'
                · simp [List.getElem?_eq_none h'] at hq
              exact ⟨q, rfl, (hrec j all[j] q (by rw [hget]; simp) hq).wrs h x hx, hjm⟩
        have hstep := step_ok (ro := ro) (P := P) (all := all) (o := o) (r := r) (fr' := over (UF all.toList rs) (fun j => listed.getD j false) m ++ s.fr)
          (H' := over (UH rs) (fun j => listed.getD j false) m ++ s.H) (env := env1) (F := F) (a := a) (w := w) (w0 := w0) (X := X) (Y := Y) (df := s.df)
          (K := wpAnyIn (Wd ro) 0 P .any all Q fuel (listed.setIfInBounds i true)) (Q := Q) hok h1 h2 h3 h4 h5
          (by
            intro t ht
            have htl := mem_looks ht
            rw [← over_lt (U := UF all.toList rs) (i := i) (m := m) (by omega), look_append, look_append]
            congr 1
            refine over_agree fun j hj hl => ?_
            obtain ⟨p, q, hp, hq, hd⟩ := hUF j t hj hl
            by_cases hji : j = i
            · subst hji; simp only [hDi, Nat.lt_irrefl, decide_false]
            · refine hset j hji ?_
              rcases Nat.lt_or_ge j i with hlt | hge
              · exact .inl ⟨hord.tmps j i p o t hlt hp hia (.inl ⟨hd, .inl htl⟩), hlt⟩
              · exact .inr ⟨hord.tmps i j o p t (by omega) hia hp (.inr ⟨hd, htl⟩), by omega⟩)
          (by
            intro h hh _
            rw [← over_lt (U := UH rs) (i := i) (m := m) (by omega), look_append, look_append]
            congr 1
            refine over_agree fun j hj hl => ?_
            obtain ⟨q, hq, hw, _⟩ := hUH j h hl
            by_cases hji : j = i
            · subst hji; simp only [hDi, Nat.lt_irrefl, decide_false]
            · refine hset j hji ?_
              rcases Nat.lt_or_ge j i with hlt | hge
              · exact .inl ⟨hord.hds j i q r h hlt hq hr (.inl ⟨hw, hh⟩), hlt⟩
              · refine .inr ⟨hord.hds i j r q h (by omega) hr hq ?_, by omega⟩
                rcases hh with hh | hh
                · exact .inr ⟨hh, hw⟩
                · exact .inl ⟨hh, .inr hw⟩)
          (by
            intro h hh1 hh2
            refine h6 h (by have := (hns i r hr).1; omega) ?_
            intro j q hj hq1 hq2
            rcases Nat.lt_trichotomy i j with hlt | heq | hgt
            · have := hdis i j r q hlt hr hj; omega
            · subst heq; exact hDi
            · have := hdis j i q r hgt hj hr; omega)
          (by
            intro env' F' a' w' hle' honly k1 k2 k3 k4 k5
            have hD' : ∀ j, (listed.setIfInBounds i true).getD j false = if j = i then true else listed.getD j false := by
              intro j
              by_cases hji : j = i
              · subst hji; simp [Array.getD_eq_getD_getElem?, hls, him]
              · have : i ≠ j := fun e => hji e.symm
                simp [Array.getD_eq_getD_getElem?, Array.getElem?_setIfInBounds_ne this, hji]
            have hDii : (listed.setIfInBounds i true).getD i false = true := by rw [hD']; simp
            have hDo : ∀ j, j ≠ i → (listed.setIfInBounds i true).getD j false = listed.getD j false := fun j hj => by rw [hD']; simp [hj]
            have eF : ∀ t, look (over (UF all.toList rs) (fun j => (listed.setIfInBounds i true).getD j false) m ++ s.fr) t = look (upF o r ++ (over (UF all.toList rs) (fun j => listed.getD j false) m ++ s.fr)) t := by
              intro t
              have hU : UF all.toList rs i = upF o r := by unfold UF; rw [hget, hia, hr]
              rw [look_append, look_append, look_append, over_insert (D := fun j => listed.getD j false) hDi hDii hDo him ?_, hU, Option.or_assoc]
              intro j hij hj hdj hne
              rw [Classical.byContradiction (p := look (UF all.toList rs j) t = none)]
              intro hne'
              obtain ⟨p, q, hp, hq, hd⟩ := hUF j t hj hne'
              obtain ⟨p', q', hp', hq', hd'⟩ := hUF i t him hne
              rw [hia] at hp'; cases hp'
              have := hset j (by omega) (.inr ⟨hord.tmps i j o p t hij hia hp (.inl ⟨hd', .inr hd⟩), hij⟩)
              have hn : ¬ j < i := by omega
              simp only [hdj, hn, decide_false] at this
              cases this
            have eH : ∀ t, look (over (UH rs) (fun j => (listed.setIfInBounds i true).getD j false) m ++ s.H) t = look (r.post ++ (over (UH rs) (fun j => listed.getD j false) m ++ s.H)) t := by
              intro t
              have hU : UH rs i = r.post := by unfold UH; rw [hr]
              rw [look_append, look_append, look_append, over_insert (D := fun j => listed.getD j false) hDi hDii hDo him ?_, hU, Option.or_assoc]
              intro j hij hj hdj hne
              rw [Classical.byContradiction (p := look (UH rs j) t = none)]
              intro hne'
              obtain ⟨q, hq, hw, _⟩ := hUH j t hne'
              obtain ⟨q', hq', hw', _⟩ := hUH i t hne
              rw [hr] at hq'; cases hq'
              have := hset j (by omega) (.inr ⟨hord.hds i j r q t hij hr hq (.inl ⟨hw', .inr hw⟩), hij⟩)
              have hn : ¬ j < i := by omega
              simp only [hdj, hn, decide_false] at this
              cases this
            refine ih (listed.setIfInBounds i true) env' F' a' w' (by simp [hls]) ?_ ?_ (hle.trans ⟨hle', fun x hx => honly x (by have := (hns i r hr).1; omega)⟩ (Nat.le_refl _)) k1 k2 ?_ (k4.congr eH) (k5.congr eH) ?_
            · have := cnt_insert (D := fun j => listed.getD j false) (D' := fun j => (listed.setIfInBounds i true).getD j false) hDi hDii hDo him
              omega
            · intro k p hk hp e he hb
              by_cases hki : k = i
              · subst hki
                have h' := hedge p hp e he hb
                show (listed.setIfInBounds k true).getD e.on false = true
                rw [hD']; split
                · rfl
                · exact h'
              · have hk : (listed.setIfInBounds i true).getD k false = true := hk
                rw [hDo k hki] at hk
                have h' := hcl k p hk hp e he hb
                show (listed.setIfInBounds i true).getD e.on false = true
                rw [hD']; split
                · rfl
                · exact h'
            · intro t v hl
              exact k3 t v ((eF t).symm.trans hl)
            · intro h hh hfr
              have hi' : ¬ (r.n ≤ h ∧ h < r.n') := by
                rintro ⟨x1, x2⟩
                have := hfr i r hr x1 x2
                rw [hDii] at this; cases this
              rw [honly h hi']
              refine h6 h hh ?_
              intro j q hj x1 x2
              by_cases hji : j = i
              · subst hji; exact hDi
              · have := hfr j q hj x1 x2
                rwa [hDo j hji] at this)
        unfold wpOpIn
        rw [hia]
        simp only
        by_cases hw : Region.wanted o (yielded all a.tmps) = true
        · rw [if_pos hw] at hstep ⊢; exact hstep
        · rw [if_neg hw] at hstep ⊢; exact hstep
  have hD0 : ∀ j, (Array.replicate m false).getD j false = false := by
    intro j; simp only [Array.getD_eq_getD_getElem?]
    rcases Nat.lt_or_ge j m with hj | hj <;> simp [hj]
  have e0 : ∀ {α : Type} (U : Nat → List (Nat × α)), over U (fun j => (Array.replicate m false).getD j false) m = [] := by
    intro α U
    rw [over_congr (D' := fun _ => false) (fun j _ => hD0 j)]
    clear hmm hlen' hD0 key
    induction m with
    | zero => rfl
    | succ m ih => simp [over, ih]
  refine key m (Array.replicate m false) env F a _ (by simp) ?_ ?_ (Ext.refl _ _) hs.size hs.defers ?_ ?_ ?_ ?_
  · clear hmm hlen' hD0 e0 key
    have : ∀ (D : Nat → Bool) k, cnt D k ≤ k := by
      intro D k; induction k with
      | zero => simp [cnt]
      | succ k ih => simp only [cnt]; split <;> omega
    exact this _ _
  · intro k o hk
    have hk : (Array.replicate m false).getD k false = true := hk
    rw [hD0] at hk; cases hk
  · rw [e0]; exact hs.val
  · rw [e0]; exact hs.heap.drew
  · rw [e0]; exact ⟨⟨hsi.frame.os, hsi.frame.tape, hsi.frame.output, hsi.frame.size, hsi.frame.block⟩, hsi.own⟩
  · intro h hh _; exact hs.fresh h hh
end
end Go.SX
namespace Go.SX
noncomputable section
theorem befStep_bit {acc : List Nat} {o : Oper} {i : Nat} (h : (befStep acc o).testBit i = true) :
    ∃ e ∈ o.after.toList, Region.binds .any e = true ∧ (i = e.on ∨ (acc.getD e.on 0).testBit i = true) := by
  unfold befStep at h
  have key : ∀ (l : List Edge) (s : Nat), (l.foldl (fun s e => match Region.binds .any e with | true => s ||| 2 ^ e.on ||| acc.getD e.on 0 | false => s) s).testBit i = true →
      s.testBit i = true ∨ ∃ e ∈ l, Region.binds .any e = true ∧ (i = e.on ∨ (acc.getD e.on 0).testBit i = true) := by
    intro l
    induction l with
    | nil => intro s h; exact .inl h
    | cons e l ih =>
      intro s h
      rw [List.foldl_cons] at h
      rcases ih _ h with h | ⟨f, hf, hx⟩
      · cases hb : Region.binds .any e with
        | false => rw [hb] at h; exact .inl h
        | true =>
          rw [hb] at h
          simp only [Nat.testBit_or, Bool.or_eq_true, Nat.testBit_two_pow, decide_eq_true_eq] at h
          rcases h with (h | h) | h
          · exact .inl h
          · exact .inr ⟨e, List.mem_cons_self, hb, .inl h.symm⟩
          · exact .inr ⟨e, List.mem_cons_self, hb, .inr h⟩
      · exact .inr ⟨f, List.mem_cons_of_mem _ hf, hx⟩
  rcases key _ _ h with h | h
  · simp at h
  · exact h
theorem befGo_spec : ∀ (ops : List Oper) (acc : List Nat), ∃ t, befGo ops acc = acc ++ t ∧ t.length = ops.length ∧
    ∀ j o, ops[j]? = some o → ∃ pre, pre.length = acc.length + j ∧ (∃ post, befGo ops acc = pre ++ post) ∧ (befGo ops acc)[acc.length + j]? = some (befStep pre o)
  | [], acc => ⟨[], by simp [befGo], rfl, fun j o h => by simp at h⟩
  | o :: l, acc => by
    obtain ⟨t, h1, h2, h3⟩ := befGo_spec l (acc ++ [befStep acc o])
    refine ⟨befStep acc o :: t, by simp [befGo, h1], by simp [h2], ?_⟩
    intro j p hp
    cases j with
    | zero =>
      simp at hp; subst hp
      exact ⟨acc, by simp, ⟨befStep acc o :: t, by simp [befGo, h1]⟩, by simp [befGo, h1]⟩
    | succ j =>
      simp at hp
      obtain ⟨pre, h4, ⟨post, h5⟩, h6⟩ := h3 j p hp
      refine ⟨pre, by simp at h4; omega, ⟨post, by simpa [befGo] using h5⟩, ?_⟩
      simp only [befGo]
      rw [← h6]
      congr 1
      simp; omega
theorem bef_anc {all : Array Oper} {i j : Nat} (h : ((bef all.toList).getD j 0).testBit i = true) : Anc all i j := by
  induction j using Nat.strongRecOn generalizing i with
  | _ j ih =>
    intro D hcl hedge
    cases ho : all[j]? with
    | none =>
      exfalso
      obtain ⟨t, h1, h2, _⟩ := befGo_spec all.toList []
      have : all.size ≤ j := by simpa using ho
      have hn : (bef all.toList)[j]? = none := by
        apply List.getElem?_eq_none
        unfold bef; rw [h1]; simp [h2]; exact this
      simp [List.getD_eq_getElem?_getD, hn] at h
    | some o =>
      obtain ⟨t, h1, h2, h3⟩ := befGo_spec all.toList []
      obtain ⟨pre, h4, ⟨post, h5⟩, h6⟩ := h3 j o (by simpa using ho)
      simp only [List.length_nil, Nat.zero_add] at h4 h6
      have hj : (bef all.toList).getD j 0 = befStep pre o := by
        unfold bef; rw [List.getD_eq_getElem?_getD, h6]; rfl
      rw [hj] at h
      obtain ⟨e, he, hb, hx⟩ := befStep_bit h
      have hDe := hedge o ho e he hb
      rcases hx with hx | hx
      · rw [hx]; exact hDe
      · by_cases hlt : e.on < j
        · have : (bef all.toList).getD e.on 0 = pre.getD e.on 0 := by
            unfold bef; rw [h5, List.getD_eq_getElem?_getD, List.getD_eq_getElem?_getD, List.getElem?_append_left (by omega)]
          exact ih e.on hlt (by rw [this]; exact hx) D hcl (fun p hp f hf hbf => hcl e.on p hDe hp f hf hbf)
        · have : pre.getD e.on 0 = 0 := by
            rw [List.getD_eq_getElem?_getD, List.getElem?_eq_none (by omega)]; rfl
          rw [this] at hx; simp at hx
section pairs
variable {α : Type}
theorem pairsB_spec {c : α → α → Bool} {b : List Nat} : ∀ {l : List (α × Nat)}, pairsB c b l = true → l.Pairwise (fun p q => p.2 < q.2) →
    ∀ x i y j, (x, i) ∈ l → (y, j) ∈ l → i < j → c x y = true → (b.getD j 0).testBit i = true
  | [], _, _, x, i, y, j, h, _, _, _ => by cases h
  | (z, k) :: l, h, hp, x, i, y, j, h1, h2, hij, hc => by
    simp only [pairsB, Bool.and_eq_true, List.all_eq_true] at h
    rw [List.pairwise_cons] at hp
    rcases List.mem_cons.1 h1 with h1 | h1 <;> rcases List.mem_cons.1 h2 with h2 | h2
    · cases h1; cases h2; omega
    · cases h1
      have := h.1 _ h2
      simp only [hc] at this
      exact this
    · cases h2
      have := hp.1 _ h1
      simp only at this; omega
    · exact pairsB_spec h.2 hp.2 x i y j h1 h2 hij hc
theorem zipIdx_sorted (l : List α) : ∀ k, (l.zipIdx k).Pairwise (fun p q => p.2 < q.2) := by
  induction l with
  | nil => intro k; simp
  | cons x l ih =>
    intro k
    rw [List.zipIdx_cons, List.pairwise_cons]
    refine ⟨?_, ih _⟩
    rintro ⟨y, j⟩ hm
    have := List.mem_zipIdx hm
    simp only; omega
end pairs
def meets (l m : List Nat) : Bool := l.any fun x => m.any (Nat.beq x)
def conflictH (x y : List Nat × List Nat) : Bool := meets x.2 y.1 || meets x.2 y.2 || meets x.1 y.2
def loud (x : (List Nat × List Nat) × Nat) : Bool := match x.1 with | ([], []) => false | _ => true
def noWr (log : List (List Nat × List Nat)) : Bool := List.rec (motive := fun _ => Bool) true (fun p _ ih => match p.2 with | [] => ih | _ :: _ => false) log
def emptyP (p : List Nat × List Nat) : Bool := match p.1, p.2 with | [], [] => true | _, _ => false
theorem emptyP_eq {p : List Nat × List Nat} (h : emptyP p = true) : p = ([], []) := by
  obtain ⟨x, y⟩ := p
  cases x <;> cases y <;> first | rfl | cases h
def fewL (log : List (List Nat × List Nat)) (b : Bool) : Bool := List.rec (motive := fun _ => Bool → Bool) (fun _ => true) (fun p _ ih b => match emptyP p, b with | true, b => ih b | false, true => ih false | false, false => false) log b
def raceB (ops : List Oper) (log : List (List Nat × List Nat)) : Bool :=
  match noWr log with
  | true => true
  | false => match fewL log true with
    | true => true
    | false => pairsB conflictH (bef ops) (log.reverse.zipIdx.filter loud)
theorem noWr_mem : ∀ {log : List (List Nat × List Nat)}, noWr log = true → ∀ p ∈ log, p.2 = []
  | [], _, p, hp => by cases hp
  | q :: l, h, p, hp => by
    have h' : (match q.2 with | [] => noWr l | _ :: _ => false) = true := h
    split at h'
    · rename_i e
      rcases List.mem_cons.1 hp with rfl | hp
      · exact e
      · exact noWr_mem h' p hp
    · cases h'
theorem fewL_quiet : ∀ {log : List (List Nat × List Nat)}, fewL log false = true → ∀ p ∈ log, p = ([], [])
  | [], _, p, hp => by cases hp
  | q :: l, h, p, hp => by
    have h' : (match emptyP q, false with | true, b => fewL l b | false, true => fewL l false | false, false => false) = true := h
    cases he : emptyP q with
    | true =>
      rw [he] at h'
      rcases List.mem_cons.1 hp with rfl | hp
      · exact emptyP_eq he
      · exact fewL_quiet h' p hp
    | false => rw [he] at h'; cases h'
theorem fewL_pair : ∀ {log : List (List Nat × List Nat)}, fewL log true = true → ∀ {i j : Nat} {p q : List Nat × List Nat}, i < j → log[i]? = some p → log[j]? = some q → p = ([], []) ∨ q = ([], [])
  | [], _, i, j, p, q, _, hp, _ => by simp at hp
  | x :: l, h, i, j, p, q, hij, hp, hq => by
    have h' : (match emptyP x, true with | true, b => fewL l b | false, true => fewL l false | false, false => false) = true := h
    obtain ⟨j, rfl⟩ : ∃ k, j = k + 1 := ⟨j - 1, by omega⟩
    rw [List.getElem?_cons_succ] at hq
    cases he : emptyP x with
    | true =>
      rw [he] at h'
      cases i with
      | zero => rw [List.getElem?_cons_zero] at hp; cases hp; exact .inl (emptyP_eq he)
      | succ i => rw [List.getElem?_cons_succ] at hp; exact fewL_pair h' (by omega) hp hq
    | false =>
      rw [he] at h'
      exact .inr (fewL_quiet h' q (List.mem_of_getElem? hq))
theorem any_beq {l : List Nat} {t : Nat} (h : t ∈ l) : l.any (Nat.beq t) = true := List.any_eq_true.2 ⟨t, h, Nat.beq_refl t⟩
theorem meets_of {l m : List Nat} {h : Nat} (h1 : h ∈ l) (h2 : h ∈ m) : meets l m = true := List.any_eq_true.2 ⟨h, h1, any_beq h2⟩
theorem ordered_of {all : Array Oper} {rs : List Rec} (h1 : staticB all = true) (h2 : raceB all.toList (rs.map fun r => (r.rd, r.wr)).reverse = true) : Ordered all rs := by
  simp only [staticB, Bool.and_eq_true] at h1
  refine ⟨?_, ?_, ?_⟩
  · intro i o ho e he hb
    have := List.all_eq_true.1 h1.1 (o, i) (by rw [List.mem_zipIdx_iff_getElem?]; simpa using ho)
    have := List.all_eq_true.1 this e he
    simp only [hb, Bool.not_true, Bool.false_or, Nat.blt_eq] at this
    exact this
  · intro i j o p t hij ho hp hc
    refine bef_anc (pairsB_spec h1.2 (zipIdx_sorted _ 0) o i p j (by rw [List.mem_zipIdx_iff_getElem?]; simpa using ho) (by rw [List.mem_zipIdx_iff_getElem?]; simpa using hp) hij ?_)
    unfold conflictT
    rcases hc with ⟨hd, hc⟩ | ⟨hd, hc⟩
    · rw [hd]
      rcases hc with hc | hc
      · simp [any_beq hc]
      · simp [hc, Nat.beq_refl]
    · rw [hd]; simp [any_beq hc]
  · intro i j r q h hij hr hq hc
    unfold raceB at h2
    split at h2
    · rename_i hn
      have hw : ∀ {k : Nat} {x : Rec}, rs[k]? = some x → x.wr = [] := by
        intro k x hk
        exact noWr_mem hn (x.rd, x.wr) (List.mem_reverse.2 (List.mem_map.2 ⟨x, List.mem_of_getElem? hk, rfl⟩))
      rcases hc with ⟨hc, -⟩ | ⟨-, hc⟩
      · rw [hw hr] at hc; cases hc
      · rw [hw hq] at hc; cases hc
    split at h2
    · rename_i hf
      exfalso
      have hi : i < rs.length := (List.getElem?_eq_some_iff.1 hr).1
      have hj : j < rs.length := (List.getElem?_eq_some_iff.1 hq).1
      have gi : (rs.map fun r => (r.rd, r.wr)).reverse[rs.length - 1 - i]? = some (r.rd, r.wr) := by
        rw [List.getElem?_reverse (by simp; omega)]
        simp only [List.length_map, List.getElem?_map]
        rw [show rs.length - 1 - (rs.length - 1 - i) = i by omega, hr]; rfl
      have gj : (rs.map fun r => (r.rd, r.wr)).reverse[rs.length - 1 - j]? = some (q.rd, q.wr) := by
        rw [List.getElem?_reverse (by simp; omega)]
        simp only [List.length_map, List.getElem?_map]
        rw [show rs.length - 1 - (rs.length - 1 - j) = j by omega, hq]; rfl
      rcases fewL_pair hf (by omega) gj gi with e | e
      · simp only [Prod.mk.injEq] at e
        rcases hc with ⟨-, h4 | h4⟩ | ⟨-, h4⟩
        · rw [e.1] at h4; cases h4
        · rw [e.2] at h4; cases h4
        · rw [e.2] at h4; cases h4
      · simp only [Prod.mk.injEq] at e
        rcases hc with ⟨h3, -⟩ | ⟨h3, -⟩
        · rw [e.2] at h3; cases h3
        · rw [e.1] at h3; cases h3
    rw [List.reverse_reverse] at h2
    have hm : ∀ {k : Nat} {x : Rec}, rs[k]? = some x → (h ∈ x.rd ∨ h ∈ x.wr) → ((x.rd, x.wr), k) ∈ ((rs.map fun r => (r.rd, r.wr)).zipIdx.filter loud) := by
      intro k x hk hh
      rw [List.mem_filter]
      refine ⟨by rw [List.mem_zipIdx_iff_getElem?]; simp [hk], ?_⟩
      unfold loud
      simp only
      split
      · rename_i he
        simp only [Prod.mk.injEq] at he
        rw [he.1, he.2] at hh
        simp at hh
      · rfl
    refine bef_anc (pairsB_spec h2 ((zipIdx_sorted _ 0).sublist List.filter_sublist) _ i _ j (hm hr ?_) (hm hq ?_) hij ?_)
    · rcases hc with hc | hc
      · exact .inr hc.1
      · exact .inl hc.1
    · rcases hc with hc | hc
      · exact hc.2
      · exact .inr hc.2
    · unfold conflictH
      rcases hc with ⟨h3, h4 | h4⟩ | ⟨h3, h4⟩
      · simp [meets_of h3 h4]
      · simp [meets_of h3 h4]
      · simp [meets_of h3 h4]
end
end Go.SX
namespace Go.SX
noncomputable section
theorem bytesEq {a b : ByteArray} : (a.toList == b.toList) = decide (a = b) := by
  rw [ByteArray.toList_eq, ByteArray.toList_eq]
  by_cases h : a = b
  · subst h; simp
  · simp only [h, decide_false, beq_eq_false_iff_ne, ne_eq]
    intro e
    obtain ⟨⟨x⟩⟩ := a
    obtain ⟨⟨y⟩⟩ := b
    exact h (by simpa using e)
inductive LK where
  | int (k : IntKind) | str | bool
def LK.fits : LK → Value → Prop
  | .int k, v => ∃ n, v = .int k n
  | .str, v => ∃ s, v = .string s
  | .bool, v => ∃ b, v = .bool b
def LKs : List LK → List Value → Prop
  | [], vs => vs = []
  | k :: l, vs => ∃ v t, vs = v :: t ∧ k.fits v ∧ LKs l t
theorem LKs.length : ∀ {l : List LK} {vs : List Value}, LKs l vs → vs.length = l.length
  | [], _, h => by simp [LKs] at h; simp [h]
  | k :: l, _, ⟨v, t, h1, _, h3⟩ => by subst h1; simp [LKs.length h3]
theorem LKs.append : ∀ {l m : List LK} {vs : List Value}, LKs (l ++ m) vs → LKs l (vs.take l.length) ∧ LKs m (vs.drop l.length)
  | [], m, vs, h => ⟨by simp [LKs], by simpa using h⟩
  | k :: l, m, _, ⟨v, t, h1, h2, h3⟩ => by
    subst h1
    obtain ⟨h4, h5⟩ := LKs.append h3
    exact ⟨⟨v, _, by simp, h2, h4⟩, by simpa using h5⟩
def eqC : Value → Value → Bool
  | .int _ a, .int _ b => decide (a = b)
  | .string a, .string b => decide (a = b)
  | .bool a, .bool b => a == b
  | _, _ => false
def eqCs : List Value → List Value → Bool
  | [], [] => true
  | v :: l, u :: m => eqC v u && eqCs l m
  | _, _ => false
theorem eqCs_append : ∀ {a b c d : List Value}, a.length = b.length → eqCs (a ++ c) (b ++ d) = (eqCs a b && eqCs c d)
  | [], [], c, d, _ => by simp [eqCs]
  | [], _ :: _, _, _, h => by simp at h
  | _ :: _, [], _, _, h => by simp at h
  | v :: a, u :: b, c, d, h => by
    simp only [List.cons_append, eqCs]
    rw [eqCs_append (by simpa using h), Bool.and_assoc]
def flatF (P : Program) (g : TypeId → Option (List LK)) : Nat → List Field → Option (List LK)
  | _, [] => some []
  | off, f :: fs => match Nat.beq f.offset off && (f.name != "_"), g f.type, P.info? f.type with
    | true, some ks, some i => match Nat.beq i.size ks.length, flatF P g (off + ks.length) fs with
      | true, some r => some (ks ++ r)
      | _, _ => none
    | _, _, _ => none
def flatT (P : Program) : Nat → TypeId → Option (List LK)
  | 0, _ => none
  | d + 1, t => match P.underlying t with
    | some (.int k) => some [.int k]
    | some .string => some [.str]
    | some .bool => some [.bool]
    | some (.struct fields) => match P.stoodInHeld t with
      | false => flatF P (flatT P d) 0 fields.toList
      | true => none
    | _ => none
def FitT (P : Program) (t : TypeId) (ks : List LK) (x : Value) : Prop :=
  (∃ k, ks = [k] ∧ k.fits x ∧ ∃ d, P.underlying t = some d ∧ (match k with | .int j => d = .int j | .str => d = .string | .bool => d = .bool)) ∨ (∃ xs fs, x = .agg xs ∧ P.underlying t = some (.struct fs) ∧ LKs ks xs.toList)
theorem isAgg_run {P : Program} {t : TypeId} {d : TypeDesc} (h : P.underlying t = some d) (w : World) : (isAgg t).run P w = .ok (match d with | .struct _ | .array _ _ => true | _ => false) w := by
  unfold isAgg
  simp only [Sem.run_bind, run_underlying h, Result.andThen_ok]
  cases d <;> rfl
theorem flatT_cases {P : Program} {d : Nat} {t : TypeId} {ks : List LK} (h : flatT P d t = some ks) :
    (∃ k, ks = [k] ∧ ∃ dd, P.underlying t = some dd ∧ (match k with | .int j => dd = .int j | .str => dd = .string | .bool => dd = .bool)) ∨
    ∃ e fs, d = e + 1 ∧ P.underlying t = some (.struct fs) ∧ P.stoodInHeld t = false ∧ flatF P (flatT P e) 0 fs.toList = some ks := by
  cases d with
  | zero => simp [flatT] at h
  | succ e =>
    unfold flatT at h
    split at h
    · rename_i k hu; cases h; exact .inl ⟨_, rfl, _, hu, rfl⟩
    · rename_i hu; cases h; exact .inl ⟨_, rfl, _, hu, rfl⟩
    · rename_i hu; cases h; exact .inl ⟨_, rfl, _, hu, rfl⟩
    · rename_i fs hu
      split at h
      · rename_i hs; exact .inr ⟨e, fs, rfl, hu, hs, h⟩
      · cases h
    · cases h
theorem part_fit {P : Program} {d : Nat} {t : TypeId} {ks : List LK} {i : TypeInfo} {cs : Array Value} {off : Nat} {w : World} (hf : flatT P d t = some ks) (hi : P.info? t = some i) (hs : i.size = ks.length)
    (h : LKs ks ((cs.toList.drop off).take ks.length)) : ∃ x, (part t cs off).run P w = .ok x w ∧ FitT P t ks x ∧ x.cells.toList = (cs.toList.drop off).take ks.length := by
  rcases flatT_cases hf with ⟨k, rfl, dd, hu, hk⟩ | ⟨e, fs, rfl, hu, _, _⟩
  · obtain ⟨v, t', h1, h2, h3⟩ := h
    simp only [LKs] at h3
    subst h3
    have hv : cs[off]? = some v := by
      have : ((cs.toList.drop off).take 1)[0]? = some v := by rw [show [k].length = 1 from rfl] at h1; rw [h1]; rfl
      simpa using this
    have hna : (isAgg t).run P w = .ok false w := by
      rw [isAgg_run hu]
      cases k <;> simp only at hk <;> subst hk <;> rfl
    refine ⟨v, ?_, .inl ⟨k, rfl, h2, dd, hu, hk⟩, ?_⟩
    · unfold part
      simp only [Sem.run_bind, hna, Result.andThen_ok, Bool.false_eq_true, if_false, hv, Sem.run_pure]
    · rw [h1]
      cases k <;> obtain ⟨n, rfl⟩ := h2 <;> simp [Value.cells]
  · refine ⟨.agg (cs.extract off (off + ks.length)), ?_, .inr ⟨_, fs, rfl, hu, ?_⟩, ?_⟩
    · unfold part
      simp [isAgg_run hu, sizeOf, typeInfo, hi, hs]
    · have : (cs.extract off (off + ks.length)).toList = (cs.toList.drop off).take ks.length := by simp [List.extract]
      rw [this]; exact h
    · simp [Value.cells, List.extract]
theorem eqFields_fit {P : Program} {D d : Nat} (IH : ∀ {t ks x y w}, flatT P d t = some ks → FitT P t ks x → FitT P t ks y → (Op.equalIn D t x y).run P w = .ok (eqCs x.cells.toList y.cells.toList) w) {xs ys : Array Value} {w : World} :
    ∀ {fs : List Field} {off : Nat} {ks : List LK}, flatF P (flatT P d) off fs = some ks → LKs ks (xs.toList.drop off) → LKs ks (ys.toList.drop off) →
      (Op.eqFields D xs ys fs).run P w = .ok (eqCs (xs.toList.drop off) (ys.toList.drop off)) w
  | [], off, ks, h, hx, hy => by
    simp only [flatF, Option.some.injEq] at h
    subst h
    simp only [LKs] at hx hy
    rw [hx, hy]
    simp [Op.eqFields, eqCs]
  | f :: fs, off, ks, h, hx, hy => by
    unfold flatF at h
    split at h
    · rename_i k1 i hb hk hi
      simp only [Bool.and_eq_true, bne_iff_ne, ne_eq] at hb
      obtain ⟨hoff, hname⟩ := hb
      have hoff := Nat.eq_of_beq_eq_true hoff
      subst hoff
      split at h
      · rename_i r hsz hr
        cases h
        have hsz := Nat.eq_of_beq_eq_true hsz
        obtain ⟨x1, x2⟩ := LKs.append hx
        obtain ⟨y1, y2⟩ := LKs.append hy
        obtain ⟨x, p1, p2, p3⟩ := part_fit (w := w) hk hi hsz x1
        obtain ⟨y, q1, q2, q3⟩ := part_fit (w := w) hk hi hsz y1
        rw [List.drop_drop] at x2 y2
        have ih := eqFields_fit IH (w := w) hr x2 y2
        have heq := IH (w := w) hk p2 q2
        rw [p3, q3] at heq
        have hsplit : eqCs (xs.toList.drop f.offset) (ys.toList.drop f.offset) = (eqCs ((xs.toList.drop f.offset).take k1.length) ((ys.toList.drop f.offset).take k1.length) && eqCs (xs.toList.drop (f.offset + k1.length)) (ys.toList.drop (f.offset + k1.length))) := by
          rw [← List.drop_drop, ← List.drop_drop (l := ys.toList), ← eqCs_append (by rw [LKs.length x1, LKs.length y1]), List.take_append_drop, List.take_append_drop]
        unfold Op.eqFields
        rw [if_pos hname]
        simp only [Sem.run_bind, p1, q1, Result.andThen_ok, heq]
        rw [hsplit]
        cases eqCs ((xs.toList.drop f.offset).take k1.length) ((ys.toList.drop f.offset).take k1.length) with
        | true => simpa using ih
        | false => simp
      · cases h
    · cases h
theorem equalIn_fit {P : Program} : ∀ {d D : Nat} {t : TypeId} {ks : List LK} {x y : Value} {w : World}, d ≤ D → flatT P d t = some ks → FitT P t ks x → FitT P t ks y →
    (Op.equalIn D t x y).run P w = .ok (eqCs x.cells.toList y.cells.toList) w := by
  intro d
  induction d with
  | zero => intro D t ks x y w _ h; simp [flatT] at h
  | succ d ih =>
    intro D t ks x y w hle h hx hy
    obtain ⟨D', rfl⟩ : ∃ D', D = D' + 1 := ⟨D - 1, by omega⟩
    rcases hx with ⟨k, rfl, hkx, dd, hu, hk⟩ | ⟨xs, fs, rfl, hu, hxs⟩
    · have hy' : k.fits y := by
        rcases hy with ⟨k', e, hky, _⟩ | ⟨ys, fs, rfl, hu', _⟩
        · cases e; exact hky
        · rw [hu] at hu'; cases hu'; cases k <;> simp only at hk <;> cases hk
      cases k with
      | int j =>
        simp only at hk; subst hk
        obtain ⟨a, rfl⟩ := hkx; obtain ⟨b, rfl⟩ := hy'
        rw [run_equalIn_int w D' t j j a b hu]
        simp only [Value.cells, eqCs, eqC, Bool.and_true]
        rfl
      | str =>
        simp only at hk; subst hk
        obtain ⟨a, rfl⟩ := hkx; obtain ⟨b, rfl⟩ := hy'
        rw [run_equalIn_string w D' t a b hu, bytesEq]
        simp only [Value.cells, eqCs, eqC, Bool.and_true]
      | bool =>
        simp only at hk; subst hk
        obtain ⟨a, rfl⟩ := hkx; obtain ⟨b, rfl⟩ := hy'
        rw [Go.run_equalIn_bool' w D' t a b hu]
        simp [Value.cells, eqCs, eqC]
    · rcases hy with ⟨k', _, _, dd, hu', hk⟩ | ⟨ys, fs', rfl, hu', hys⟩
      · rw [hu] at hu'; cases hu'; cases k' <;> simp only at hk <;> cases hk
      · rcases flatT_cases h with ⟨k, rfl, dd, hu2, hk⟩ | ⟨e, fs2, he, hu2, hst, hfl⟩
        · rw [hu] at hu2; cases hu2; cases k <;> simp only at hk <;> cases hk
        · cases he
          rw [hu] at hu2; cases hu2
          have hfo : P.fieldsOf t = fs := by unfold Program.fieldsOf; rw [hu]
          rw [run_equalIn_struct w D' t xs ys (by rw [hfo]; exact hu) hst, hfo]
          have := eqFields_fit (D := D') (d := d) (xs := xs) (ys := ys) (w := w) (fun {t ks x y w} a b c => ih (by omega) a b c) hfl (by simpa using hxs) (by simpa using hys)
          rw [this]
          simp [Value.cells]
theorem forIn_check {P : Program} {w : World} {α : Type} {g : α → Go.Sem (ForInStep PUnit)} {c : α → Prop} [DecidablePred c] : ∀ {l : List α}, (∀ x ∈ l, (g x).run P w = .ok (.yield PUnit.unit) w) →
    (forIn l PUnit.unit (fun x _ => if c x then g x else pure (ForInStep.yield PUnit.unit)) : Go.Sem PUnit).run P w = .ok PUnit.unit w
  | [], _ => by simp
  | x :: l, h => by
    have h1 := h x List.mem_cons_self
    have h2 := forIn_check (P := P) (w := w) (c := c) (l := l) fun y hy => h y (List.mem_cons_of_mem _ hy)
    rw [List.forIn_cons]
    by_cases hc : c x
    · simp only [hc, if_true, Sem.run_bind, h1, Result.andThen_ok]
      exact h2
    · simp only [hc, if_false, Sem.run_bind, Result.andThen_ok, Sem.run_pure]
      exact h2
def findE (x : List Value) : List MapEntry → Nat → Option (Nat × Value)
  | [], _ => none
  | e :: l, i => match eqCs x e.key.cells.toList with
    | true => some (i, e.val)
    | false => findE x l (i + 1)
theorem findAsking_fit {P : Program} {k : TypeId} {ks : List LK} {x : Value} {w : World} (hk : flatT P 100 k = some ks) (hx : FitT P k ks x) : ∀ {es : List MapEntry} {i : Nat}, (∀ e ∈ es, FitT P k ks e.key) →
    (Instr.findAsking k x es i).run P w = .ok (findE x.cells.toList es i) w
  | [], i, _ => by simp [Instr.findAsking, findE]
  | e :: es, i, h => by
    have h1 := equalIn_fit (w := w) (D := 10000) (by omega) hk hx (h e List.mem_cons_self)
    have h2 := findAsking_fit (w := w) hk hx (es := es) (i := i + 1) fun y hy => h y (List.mem_cons_of_mem _ hy)
    unfold Instr.findAsking findE
    simp only [Sem.run_bind, Op.equal, Op.maxDepth, h1, Result.andThen_ok]
    cases eqCs x.cells.toList e.key.cells.toList with
    | true => simp
    | false => simpa using h2
theorem findNow_scalar {P : Program} {k : TypeId} {j : LK} {x : Value} {d : TypeDesc} (hu : P.underlying k = some d) (hd : match j with | .int q => d = .int q | .str => d = .string | .bool => d = .bool) (hx : j.fits x) :
    ∀ {es : List MapEntry} {i : Nat}, (∀ e ∈ es, FitT P k [j] e.key) → Instr.findNow d x es i = some (findE x.cells.toList es i)
  | [], i, _ => rfl
  | e :: es, i, h => by
    have h2 := findNow_scalar hu hd hx (es := es) (i := i + 1) fun y hy => h y (List.mem_cons_of_mem _ hy)
    have he : j.fits e.key := by
      rcases h e List.mem_cons_self with ⟨k', e1, h3, _⟩ | ⟨xs, fs, _, hu', _⟩
      · cases e1; exact h3
      · rw [hu] at hu'; cases hu'; cases j <;> simp only at hd <;> cases hd
    unfold Instr.findNow findE
    have hs : Instr.sameNow d x e.key = some (eqCs x.cells.toList e.key.cells.toList) := by
      cases j with
      | int q =>
        simp only at hd; subst hd
        obtain ⟨a, ha⟩ := hx; obtain ⟨b, hb⟩ := he
        subst ha; rw [hb]
        simp only [Instr.sameNow, if_true, Value.cells, eqCs, eqC, Bool.and_true]
        rfl
      | str =>
        simp only at hd; subst hd
        obtain ⟨a, ha⟩ := hx; obtain ⟨b, hb⟩ := he
        subst ha; rw [hb]
        simp only [Instr.sameNow, Value.cells, eqCs, eqC, Bool.and_true]
        rw [beq_toListBytes, bytesEq]
      | bool =>
        simp only at hd; subst hd
        obtain ⟨a, ha⟩ := hx; obtain ⟨b, hb⟩ := he
        subst ha; rw [hb]
        simp [Instr.sameNow, Value.cells, eqCs, eqC]
    rw [hs]
    cases eqCs x.cells.toList e.key.cells.toList with
    | true => rfl
    | false => exact h2
theorem findKey_fit {P : Program} {k : TypeId} {ks : List LK} {x : Value} {w : World} (hk : flatT P 100 k = some ks) (hx : FitT P k ks x) {es : List MapEntry} (h : ∀ e ∈ es, FitT P k ks e.key) :
    (Instr.findKey k x es).run P w = .ok (findE x.cells.toList es 0) w := by
  unfold Instr.findKey
  rcases flatT_cases hk with ⟨j, rfl, dd, hu, hd⟩ | ⟨e, fs, _, hu, _, _⟩
  · have hj : j.fits x := by
      rcases hx with ⟨k', e1, h3, _⟩ | ⟨xs, fs, _, hu', _⟩
      · cases e1; exact h3
      · rw [hu] at hu'; cases hu'; cases j <;> simp only at hd <;> cases hd
    simp only [Sem.run_bind, run_underlying hu, Result.andThen_ok, findNow_scalar hu hd hj h]
    rfl
  · simp only [Sem.run_bind, run_underlying hu, Result.andThen_ok]
    cases es with
    | nil => simp [Instr.findNow, findE]
    | cons e1 es =>
      have : Instr.findNow (.struct fs) x (e1 :: es) 0 = none := by
        unfold Instr.findNow Instr.sameNow
        rfl
      rw [this]
      exact findAsking_fit hk hx h
theorem checkKey_fit {P : Program} : ∀ {d D : Nat} {em : Bool} {t : TypeId} {ks : List LK} {x : Value} {w : World}, d ≤ D → flatT P d t = some ks → FitT P t ks x → (Instr.checkKey em D t x).run P w = .ok () w := by
  intro d
  induction d with
  | zero => intro D em t ks x w _ h; simp [flatT] at h
  | succ d ih =>
    intro D em t ks x w hle h hx
    obtain ⟨D', rfl⟩ : ∃ D', D = D' + 1 := ⟨D - 1, by omega⟩
    rcases hx with ⟨k, rfl, hkx, dd, hu, hk⟩ | ⟨xs, fs, rfl, hu, hxs⟩
    · unfold Instr.checkKey
      simp only [Sem.run_bind, run_underlying hu, Result.andThen_ok]
      cases k <;> simp only at hk <;> subst hk <;> rfl
    · rcases flatT_cases h with ⟨k, rfl, dd, hu2, hk⟩ | ⟨e, fs2, he, hu2, hst, hfl⟩
      · rw [hu] at hu2; cases hu2; cases k <;> simp only at hk <;> cases hk
      · cases he
        rw [hu] at hu2; cases hu2
        unfold Instr.checkKey
        simp only [Sem.run_bind, run_underlying hu, Result.andThen_ok]
        rw [← Array.forIn_toList]
        have parts : ∀ {l : List Field} {off : Nat} {r : List LK}, flatF P (flatT P d) off l = some r → LKs r (xs.toList.drop off) → ∀ f ∈ l, (do Instr.checkKey em D' f.type (← part f.type xs f.offset) : Go.Sem Unit).run P w = .ok () w := by
          intro l
          induction l with
          | nil => intro off r _ _ f hf; cases hf
          | cons g l ihl =>
            intro off r hr hx f hf
            unfold flatF at hr
            split at hr
            · rename_i k1 i hb hk hi
              simp only [Bool.and_eq_true, bne_iff_ne, ne_eq] at hb
              have hoff := Nat.eq_of_beq_eq_true hb.1
              subst hoff
              split at hr
              · rename_i r2 hsz hr2
                cases hr
                have hsz := Nat.eq_of_beq_eq_true hsz
                obtain ⟨x1, x2⟩ := LKs.append hx
                rcases List.mem_cons.1 hf with rfl | hf
                · obtain ⟨v, p1, p2, p3⟩ := part_fit (w := w) hk hi hsz x1
                  simp only [Sem.run_bind, p1, Result.andThen_ok]
                  exact ih (by omega) hk p2
                · rw [List.drop_drop] at x2
                  exact ihl hr2 x2 f hf
              · cases hr
            · cases hr
        have hp := parts hfl (by simpa using hxs)
        have := forIn_check (P := P) (w := w) (c := fun f : Field => f.name ≠ "_") (g := fun f => do
          let y ← part f.type xs f.offset
          Instr.checkKey em D' f.type y
          pure (ForInStep.yield PUnit.unit)) (l := fs.toList) (by
            intro f hf
            have h1 := hp f hf
            simp only [Sem.run_bind] at h1 ⊢
            cases hq : (part f.type xs f.offset).run P w with
            | ok a w1 =>
              rw [hq] at h1
              simp only [Result.andThen_ok] at h1 ⊢
              rw [h1]; rfl
            | halt r w1 => rw [hq] at h1; simp [Result.andThen] at h1)
        rw [this]
        rfl
end
end Go.SX
-- MERGED
-- SQUEEZED
