/- SX, part I: the conditions of a piece of code, as a program that yields a proposition. -/
import Derived.Test.YtglkoaajgekonaaGreatDoorSXH
import Derived.Test.YtglkoaajgekonaaGreatDoorSXHS
import Derived.Test.YtglkoaajgekonaaGreatDoorSXHU
namespace Go.SX
noncomputable section
def lits : List Nat := [0, 1, 2, 3, 4, 5, 6, 7, 8, 9, 10, 11, 12, 13, 14, 15, 16, 17, 18, 19, 20, 21, 22, 23, 24, 25, 26, 27, 28, 29, 30, 31, 32, 33, 34, 35, 36, 37, 38, 39, 40, 41, 42, 43, 44, 45, 46, 47, 48, 49, 50, 51, 52, 53, 54, 55, 56, 57, 58, 59, 60, 61, 62, 63]
def litIn {α : Type} : List Nat → Nat → (Nat → α) → α
 | [], n, K => K n
 | m :: l, n, K => match Nat.beq m n with
  | true => K m
  | false => litIn l n K
def lit {α : Type} (n : Nat) (K : Nat → α) : α := litIn lits n K
theorem litIn_eq {α : Type} {n : Nat} {K : Nat → α} : ∀ {l : List Nat}, litIn l n K = K n
 | [] => rfl
 | m :: l => by
  unfold litIn
  cases h : Nat.beq m n with
  | true => have := Nat.eq_of_beq_eq_true h; subst this; rfl
  | false => exact litIn_eq
theorem lit_eq {α : Type} {n : Nat} {K : Nat → α} : lit n K = K n := litIn_eq
structure Ans (α : Type) where
 rows : Bool
 dfr : Bool
 bad : α
 ob : (p : Prop) → Decidable p → α → α
 bc : Bool → α → α → α
 num : Nat → (Nat → α) → α
 int : Int → (Int → α) → α
 str : ByteArray → (ByteArray → α) → α
 pre : Oper → St → (St → α) → α → α
 stop : Oper → St → (St → α) → α
 call : FuncId → List AV → Oper → St → (St → α) → α
 yld : Nat → List AV → Oper → St → (St → α) → α
 loop : ((Exit → St → α) → St → α) → Code → (Exit → St → α) → St → α
 scope : ((Exit → St → α) → St → α) → Code → (Exit → St → α) → St → α
 range : Operand → Array Tmp → Code → ((Exit → St → α) → St → α) → Code → (Exit → St → α) → St → α
 num_eq : ∀ n K, num n K = K n
 int_eq : ∀ n K, int n K = K n
 str_eq : ∀ n K, str n K = K n
def force0 {α : Type} (A : Ans α) (v : AV) (K : AV → α) : α :=
 match v with
 | .bool b => K (.bool b)
 | .int k n => A.int n fun n => K (.int k n)
 | .str s => A.str s fun s => K (.str s)
 | .hd h => A.num h fun h => K (.hd h)
 | .sl h n => A.num h fun h => K (.sl h n)
 | .ptr h o => A.num h fun h => A.num o fun o => K (.ptr h o)
 | .el h z i o => A.num h fun h => A.num o fun o => K (.el h z i o)
 | .slc h off len cap => A.num h fun h => A.num off fun off => A.num len fun len => A.num cap fun cap => K (.slc h off len cap)
 | .sv h z i len cap => A.num h fun h => A.num i fun i => A.num len fun len => match cap with | none => K (.sv h z i len none) | some c => A.num c fun c => K (.sv h z i len (some c))
 | .yld h => A.num h fun h => K (.yld h)
 | .nilp => K .nilp
 | .nils => K .nils
 | .nilm => K .nilm
 | .nilf => K .nilf
 | .nili => K .nili
 | .agg l => K (.agg l)
 | .tup l => K (.tup l)
 | .iface t v => K (.iface t v)
 | .fn f l m => K (.fn f l m)
 | .raw v => K (.raw v)
def forceL {α : Type} (g : AV → (AV → α) → α) (l : List AV) : (List AV → α) → α := List.rec (motive := fun _ => (List AV → α) → α) (fun K => K []) (fun v _ ih K => g v fun v => ih fun l => K (v :: l)) l
theorem forceL_cons {α : Type} (g : AV → (AV → α) → α) (v : AV) (l : List AV) (K : List AV → α) : forceL g (v :: l) K = g v fun v => forceL g l fun l => K (v :: l) := rfl
def force1 {α : Type} (A : Ans α) (v : AV) (K : AV → α) : α :=
 match v with
 | .agg l => forceL (force0 A) l fun l => K (.agg l)
 | .fn f l m => forceL (force0 A) l fun l => forceL (force0 A) m fun m => K (.fn f l m)
 | v => force0 A v K
def force {α : Type} (A : Ans α) (v : AV) (K : AV → α) : α :=
 match v with
 | .bool b => K (.bool b)
 | .int k n => A.int n fun n => K (.int k n)
 | .str s => A.str s fun s => K (.str s)
 | .hd h => A.num h fun h => K (.hd h)
 | .sl h n => A.num h fun h => K (.sl h n)
 | .ptr h o => A.num h fun h => A.num o fun o => K (.ptr h o)
 | .el h z i o => A.num h fun h => A.num i fun i => A.num o fun o => K (.el h z i o)
 | .slc h off len cap => A.num h fun h => A.num off fun off => A.num len fun len => A.num cap fun cap => K (.slc h off len cap)
 | .sv h z i len cap => force0 A (.sv h z i len cap) K
 | .yld h => A.num h fun h => K (.yld h)
 | .nilp => K .nilp
 | .nils => K .nils
 | .nilm => K .nilm
 | .nilf => K .nilf
 | .nili => K .nili
 | .agg l => forceL (force0 A) l fun l => K (.agg l)
 | .tup l => forceL (force1 A) l fun l => K (.tup l)
 | .iface t v => force1 A v fun v => K (.iface t v)
 | .fn f l m => forceL (force0 A) l fun l => forceL (force0 A) m fun m => K (.fn f l m)
 | .raw v => K (.raw v)
theorem force0_eq {α : Type} {A : Ans α} {v : AV} {K : AV → α} : force0 A v K = K v := by
 cases v <;> simp [force0, A.num_eq, A.int_eq, A.str_eq]
 rename_i cap; cases cap <;> simp
theorem forceL_eq {α : Type} {g : AV → (AV → α) → α} (hg : ∀ v K, g v K = K v) : ∀ {l : List AV} {K : List AV → α}, forceL g l K = K l
 | [], _ => rfl
 | v :: l, K => by rw [forceL_cons, hg, forceL_eq hg (l := l)]
theorem force1_eq {α : Type} {A : Ans α} {v : AV} {K : AV → α} : force1 A v K = K v := by cases v <;> simp [force1, force0_eq, forceL_eq (fun _ _ => force0_eq)]
theorem force_eq {α : Type} {A : Ans α} {v : AV} {K : AV → α} : force A v K = K v := by
 cases v <;> simp [force, force0_eq, force1_eq, forceL_eq (fun _ _ => force1_eq), forceL_eq (fun _ _ => force0_eq), A.num_eq, A.int_eq, A.str_eq]
def spine {β α : Type} (l : List β) : (List β → α) → α := List.rec (motive := fun _ => (List β → α) → α) (fun K => K []) (fun v _ ih K => ih fun l => K (v :: l)) l
theorem spine_cons {β α : Type} (v : β) (l : List β) (K : List β → α) : spine (v :: l) K = spine l fun l => K (v :: l) := rfl
theorem spine_eq {β α : Type} : ∀ {l : List β} {K : List β → α}, spine l K = K l
 | [], _ => rfl
 | v :: l, K => by rw [spine_cons, spine_eq (l := l)]
def bcase (b : Bool) (A B : Prop) : Prop :=
 match b with
 | true => A
 | false => B
theorem bcase_intro {b : Bool} {A B : Prop} (h : b = true → A) (k : b = false → B) : bcase b A B := by
 cases b with
 | true => exact h rfl
 | false => exact k rfl
def setB {α : Type} (fr : Fr) (d : Nat) (b : Bool) : (Fr → α) → α := List.rec (motive := fun _ => (Fr → α) → α) (fun K => K []) (fun p l ih K => Bool.rec (ih fun l => K (p :: l)) (K ((p.1, .bool b) :: l)) (Nat.beq p.1 d)) fr
theorem setB_cons {α : Type} (k : Nat) (v : AV) (l : Fr) (d : Nat) (b : Bool) (K : Fr → α) : setB ((k, v) :: l) d b K = (match Nat.beq k d with
  | true => K ((k, .bool b) :: l)
  | false => setB l d b fun l => K ((k, v) :: l)) := by
 show (Bool.rec (setB l d b fun l => K ((k, v) :: l)) (K ((k, .bool b) :: l)) (Nat.beq k d) : α) = _
 cases Nat.beq k d <;> rfl
theorem setB_eq {α : Type} : ∀ {fr : Fr} {d : Nat} {b : Bool} {K : Fr → α}, look fr d = some (.bool b) → setB fr d b K = K fr
 | [], _, _, _, h => by simp [lookN] at h
 | (k, v) :: l, d, b, K, h => by
  rw [setB_cons]
  cases hb : Nat.beq k d with
  | true =>
   rw [lookC, hb] at h
   simp only [Option.some.injEq] at h; subst h; rfl
  | false =>
   rw [lookC, hb] at h
   exact setB_eq h
def putM {α : Type} (A : Ans α) (o : Oper) (v : AV) (fr : Fr) (H : Heap) (n sz : Nat) (df : List Df) (log : List (List Nat × List Nat)) (bs : Nat) (rd wr : List Nat) (K : St → α) : α :=
 match o.dst with
 | none => K ⟨fr, H, n, sz, df, (rd, wr) :: log, bs⟩
 | some d => match Nat.blt d sz with
  | true => force A v fun v => K ⟨(d, v) :: fr, H, n, sz, df, (rd, wr) :: log, bs⟩
  | false => A.bad
def putN {α : Type} (A : Ans α) (o : Oper) (v : AV) (fr : Fr) (H : Heap) (n sz : Nat) (df : List Df) (log : List (List Nat × List Nat)) (bs : Nat) (rd wr : List Nat) (K : St → α) : α :=
 A.num n fun n => putM A o v fr H n sz df log bs rd wr K
def putF {α : Type} (A : Ans α) (o : Oper) (v : AV) (fr : Fr) (H : Heap) (n sz : Nat) (df : List Df) (log : List (List Nat × List Nat)) (bs : Nat) (K : St → α) : α :=
 match o.dst with
 | none => K ⟨fr, H, n, sz, df, ([], []) :: log, bs⟩
 | some d => match Nat.blt d sz with
  | true => K ⟨(d, v) :: fr, H, n, sz, df, ([], []) :: log, bs⟩
  | false => A.bad
def Stop (P : Program) (o : Oper) (s : St) (K : St → Prop) : Prop :=
 ∃ r : Rec, r.run = true ∧ r.n = s.n ∧ r.n ≤ r.n' ∧ (∀ d, o.dst = some d → d < s.sz) ∧ TripleY P o s.fr r.R r.pre r.n r.n' r.val r.post ∧ Sub r.R s.H ∧ Sub r.pre s.H ∧
  (∀ h x, look r.pre h = some x → ∃ x', look r.post h = some x') ∧ (∀ h x, look r.R h = some x → h ∈ r.rd) ∧ (∀ h x, look r.post h = some x → h ∈ r.wr) ∧ K (s.app o r)
theorem Stop.mono {P : Program} {o : Oper} {s : St} {K K' : St → Prop} (h : ∀ s, K s → K' s) : Stop P o s K → Stop P o s K' := by
 rintro ⟨r, h1, h2, h3, h4, h5, h6, h7, h8, h9, h10, h11⟩
 exact ⟨r, h1, h2, h3, h4, h5, h6, h7, h8, h9, h10, h _ h11⟩
def IsCall (o : Oper) (fr : Fr) (g : FuncId) (vs : List AV) : Prop :=
 ∃ c f first us cap, o.op = .call c ∧ c.callee = .value f ∧ ev fr f = some (.fn (.func g) first cap) ∧ evs fr c.args.toList = some us ∧ vs = first ++ (us ++ cap)
def CallStop (P : Program) (g : FuncId) (vs : List AV) (o : Oper) (s : St) (K : St → Prop) : Prop := IsCall o s.fr g vs → Stop P o s K
def IsYield (o : Oper) (fr : Fr) (h : Nat) (vs : List AV) : Prop :=
 ∃ c f, o.op = .call c ∧ c.callee = .value f ∧ ev fr f = some (.yld h) ∧ evs fr c.args.toList = some vs
def YieldStop (P : Program) (h : Nat) (vs : List AV) (o : Oper) (s : St) (K : St → Prop) : Prop := IsYield o s.fr h vs → Stop P o s K
structure OpAns (P : Program) {α : Type} (A : Ans α) (tr : α → Prop) : Prop where
 bad : ¬ tr A.bad
 ob : ∀ {p d a}, tr (A.ob p d a) → p ∧ tr a
 bc : ∀ {b x y}, tr (A.bc b x y) → (b = true → tr x) ∧ (b = false → tr y)
 pre : ∀ {o s K d}, tr (A.pre o s K d) → Stop P o s (fun s => tr (K s)) ∨ tr d
 stop : ∀ {o s K}, tr (A.stop o s K) → Stop P o s fun s => tr (K s)
 call : ∀ {g vs o s K}, tr (A.call g vs o s K) → CallStop P g vs o s fun s => tr (K s)
 yld : ∀ {h vs o s K}, tr (A.yld h vs o s K) → YieldStop P h vs o s fun s => tr (K s)
def vcMore {α : Type} (A : Ans α) (T : Tab) (o : Oper) (s : St) (K : St → α) : α :=
 match s with
 | ⟨fr, H, n, sz, df, log, bs⟩ =>
  match o.op with
  | .convert s d x => match kindOf T s, kindOf T d, ev fr x with
   | .slice e, .str, some (.sl h _) => match kindOf T e, look H h with
    | .int .u8, some (.abs D) => match D.tag, Nat.beq D.esz 1, intsC D.cell 0 D.len with
     | some _, true, some l => putM A o (.str (strOfNums l)) fr H n sz df log bs [h] [] K
     | _, _, _ => A.stop o ⟨fr, H, n, sz, df, log, bs⟩ K
    | _, _ => A.stop o ⟨fr, H, n, sz, df, log, bs⟩ K
   | .slice e, .str, some (.slc h off len _) => match kindOf T e, look H h with
    | .int .u8, some (.box _ cs) => match intsL (cs.drop off) len with
     | some l => putM A o (.str (strOfNums l)) fr H n sz df log bs [h] [] K
     | none => A.stop o ⟨fr, H, n, sz, df, log, bs⟩ K
    | _, _ => A.stop o ⟨fr, H, n, sz, df, log, bs⟩ K
   | .slice e, .str, some .nils => match kindOf T e with
    | .int .u8 => putM A o (.str ByteArray.empty) fr H n sz df log bs [] [] K
    | _ => A.stop o ⟨fr, H, n, sz, df, log, bs⟩ K
   | .str, .slice e, some (.str b) => match kindOf T e with
    | .int .u8 => putN A o (.sl n b.size) fr ((n, .abs (lst none b.size 1 (byteC b))) :: H) (n + 1) sz df log bs [] [n] K
    | _ => A.stop o ⟨fr, H, n, sz, df, log, bs⟩ K
   | _, _, _ => A.stop o ⟨fr, H, n, sz, df, log, bs⟩ K
  | .makeMap _ none => putN A o (.hd n) fr ((n, .map []) :: H) (n + 1) sz df log bs [] [n] K
  | .lookup t x k ok => match kindOf T t, ev fr x, ev fr k with
   | .map kt et fl, some (.hd h), some kv => match look H h, T et with
    | some (.map L), some r => match keyFit T kt fl kv && allFit T kt fl L, zeroA r with
     | true, some z => putM A o (match findA (keyL kv) L with | some (_, u) => okA' ok u true | none => okA' ok z false) fr H n sz df log bs [h] [] K
     | _, _ => A.stop o ⟨fr, H, n, sz, df, log, bs⟩ K
    | _, _ => A.stop o ⟨fr, H, n, sz, df, log, bs⟩ K
   | _, _, _ => A.stop o ⟨fr, H, n, sz, df, log, bs⟩ K
  | .mapUpdate t x k y => match kindOf T t, ev fr x, ev fr k, ev fr y with
   | .map kt _ fl, some (.hd h), some kv, some v => match look H h with
    | some (.map L) => match keyFit T kt fl kv && allFit T kt fl L with
     | true => spine (updA L kv v) fun L' => putM A o (.raw undef) fr ((h, .map L') :: H) n sz df log bs [] [h] K
     | false => A.stop o ⟨fr, H, n, sz, df, log, bs⟩ K
    | _ => A.stop o ⟨fr, H, n, sz, df, log, bs⟩ K
   | _, _, _, _ => A.stop o ⟨fr, H, n, sz, df, log, bs⟩ K
  | .call { callee := .builtin .delete, args := xs, argTypes := ts } => match xs.toList, ts.toList with
   | [x, k], [t, _] => match kindOf T t, ev fr x, ev fr k with
    | .map kt _ fl, some (.hd h), some kv => match look H h with
     | some (.map L) => match keyFit T kt fl kv && allFit T kt fl L with
      | true => spine (delA L kv) fun L' => putM A o (.tup []) fr ((h, .map L') :: H) n sz df log bs [] [h] K
      | false => A.stop o ⟨fr, H, n, sz, df, log, bs⟩ K
     | _ => A.stop o ⟨fr, H, n, sz, df, log, bs⟩ K
    | _, _, _ => A.stop o ⟨fr, H, n, sz, df, log, bs⟩ K
   | _, _ => A.stop o ⟨fr, H, n, sz, df, log, bs⟩ K
  | .range t x => match kindOf T t, ev fr x with
   | .map _ _ _, some (.hd h) => match look H h with
    | some (.map L) => putN A o (.ptr n 0) fr ((h, .rmap L L [] n) :: (n, .iter h) :: H) (n + 1) sz df log bs [] [h, n] K
    | _ => A.stop o ⟨fr, H, n, sz, df, log, bs⟩ K
   | _, _ => A.stop o ⟨fr, H, n, sz, df, log, bs⟩ K
  | .next x false => match ev fr x with
   | some (.ptr it 0) => match look H it with
    | some (.iter h) => match look H h, Nat.beq h it with
     | some (.rmap L [] cur it'), false => match Nat.beq it' it with
      | true => putM A o (.tup [.bool false]) fr ((h, .map L) :: (it, .gone) :: H) n sz df log bs [] [h, it] K
      | false => A.stop o ⟨fr, H, n, sz, df, log, bs⟩ K
     | some (.rmap L [(kv, v)] cur it'), false => match Nat.beq it' it with
      | true => putM A o (.tup [.bool true, kv, v]) fr ((h, .rmap L [] [(kv, v)] it) :: (it, .iter h) :: H) n sz df log bs [] [h, it] K
      | false => A.stop o ⟨fr, H, n, sz, df, log, bs⟩ K
     | _, _ => A.stop o ⟨fr, H, n, sz, df, log, bs⟩ K
    | _ => A.stop o ⟨fr, H, n, sz, df, log, bs⟩ K
   | _ => A.stop o ⟨fr, H, n, sz, df, log, bs⟩ K
  | .entry x => match ev fr x with
   | some (.ptr it 0) => match look H it with
    | some (.iter h) => match look H h with
     | some (.rmap L todo [(kv, v)] it') => match Nat.beq it' it with
      | true => putM A o (.tup [kv, v]) fr H n sz df log bs [h] [] K
      | false => A.stop o ⟨fr, H, n, sz, df, log, bs⟩ K
     | _ => A.stop o ⟨fr, H, n, sz, df, log, bs⟩ K
    | _ => A.stop o ⟨fr, H, n, sz, df, log, bs⟩ K
   | _ => A.stop o ⟨fr, H, n, sz, df, log, bs⟩ K
  | _ => A.stop o ⟨fr, H, n, sz, df, log, bs⟩ K
def vcMem {α : Type} (A : Ans α) (T : Tab) (o : Oper) (s : St) (K : St → α) : α :=
 match s with
 | ⟨fr, H, n, sz, df, log, bs⟩ =>
  match o.op with
  | .buildSlice t m ps => match kindOf T t, evps fr ps.toList with
   | .slice e, some vs => match T e with
    | some ⟨_, z, zs, _⟩ => match fillA (fun i => some (i * z, z)) (repA m z zs) vs with
     | some cs => match Nat.beq zs.length z && (Nat.ble (m * z) 16777216 && (Nat.ble 1 (m * z) && cs.all closedA)) with
      | true => spine cs fun cs => putN A o (.sl n m) fr ((n, .abs (lst (some e) m z (cellsAt cs z))) :: H) (n + 1) sz df log bs [] [n] K
      | false => A.stop o ⟨fr, H, n, sz, df, log, bs⟩ K
     | none => A.stop o ⟨fr, H, n, sz, df, log, bs⟩ K
    | none => A.bad
   | _, _ => A.bad
  | .call { callee := .builtin .append, args := xs, argTypes := ts } => match xs.toList, ts.toList with
   | [x, y], [t, t'] => match kindOf T t, Nat.beq t t', ev fr x, ev fr y with
    | .slice e, true, some (.sl h _), some (.sl h2 _) => match T e, look H h, look H h2 with
     | some ⟨_, z, zs, _⟩, some (.abs D), some (.abs B) => match D.tag, B.tag, Nat.beq D.esz z && (Nat.beq B.esz z && (Nat.blt 0 z && (Nat.beq zs.length z && !Nat.beq h h2))) with
      | some (some e'), some _, true => match Nat.beq e' e with
       | true => A.ob ((D.len + B.len) * z ≤ room) inferInstance <| putN A o (.sl n (D.len + B.len)) fr ((h, .gone) :: (n, .abs (lst (some e) (D.len + B.len) z (appC D.len D.cell B.cell))) :: H) (n + 1) sz df log bs [h2] [h, n] K
       | false => A.bad
      | _, _, _ => A.stop o ⟨fr, H, n, sz, df, log, bs⟩ K
     | _, _, _ => A.stop o ⟨fr, H, n, sz, df, log, bs⟩ K
    | .slice e, true, some .nils, some (.sl h2 _) => match T e, look H h2 with
     | some ⟨_, z, zs, _⟩, some (.abs B) => match B.tag, Nat.beq B.esz z && (Nat.blt 0 z && Nat.beq zs.length z) with
      | some _, true => A.ob (B.len * z ≤ room) inferInstance <| putN A o (.sl n B.len) fr ((n, .abs (lst (some e) B.len z B.cell)) :: H) (n + 1) sz df log bs [h2] [n] K
      | _, _ => A.stop o ⟨fr, H, n, sz, df, log, bs⟩ K
     | _, _ => A.stop o ⟨fr, H, n, sz, df, log, bs⟩ K
    | _, _, _, _ => A.stop o ⟨fr, H, n, sz, df, log, bs⟩ K
   | _, _ => A.stop o ⟨fr, H, n, sz, df, log, bs⟩ K
  | .slice t x lx hx none => match kindOf T t, ev fr x, evo fr lx, evo fr hx with
   | .slice e, some (.sl h _), some l, some u => match T e, look H h with
    | some ⟨_, z, _, _⟩, some (.abs D) => match D.tag, Nat.beq D.esz z, sliceB D.len l u with
     | some none, true, some (p, lo, hi) => A.ob p.p p.d <| putN A o (.sl n (hi - lo)) fr ((n, .abs (lst none (hi - lo) z (subC lo D.cell))) :: H) (n + 1) sz df log bs [h] [n] K
     | _, _, _ => A.stop o ⟨fr, H, n, sz, df, log, bs⟩ K
    | _, _ => A.stop o ⟨fr, H, n, sz, df, log, bs⟩ K
   | _, _, _, _ => A.stop o ⟨fr, H, n, sz, df, log, bs⟩ K
  | _ => vcMore A T o ⟨fr, H, n, sz, df, log, bs⟩ K
def srcOf (H : Heap) (y : AV) : Option (Option Res × Heap × List Nat) :=
 match srcH y with
 | none => some (none, [], [])
 | some h => match look H h with
  | some r => some (some r, [(h, r)], [h])
  | none => none
def isSeq : TK → Bool
 | .slice _ => true
 | .str => true
 | _ => false
def rowish (rows : Bool) (x y : AV) : Bool :=
 match x, y with
 | .sv _ _ _ _ _, _ => true
 | .nils, .sl _ _ => rows
 | .nils, _ => true
 | _, _ => false
def appG {α : Type} (A : Ans α) (o : Oper) (s : St) (K : St → α) (e z : Nat) (xv : AV) (k : Nat) (ws : List AV) (rd : List Nat) : α :=
 match s with
 | ⟨fr, H, n, sz, df, log, bs⟩ => match xv with
  | .nils => match Nat.beq k 0 with
   | true => putM A o .nils fr H n sz df log bs rd [] K
   | false => A.ob ((0 + k) * z ≤ room) inferInstance <| spine ([] ++ ws) fun cs => putN A o (.sv n z 0 (0 + k) none) fr ((n, .row e z cs none) :: H) (n + 1) sz df log bs rd [n] K
  | .sv h zz i len c => match Nat.beq k 0 with
   | true => putM A o (.sv h zz i len c) fr H n sz df log bs rd [] K
   | false => match look H h with
    | some (.row e0 z0 cs rc) => match Nat.beq zz z && (Nat.beq z0 z && Nat.ble ((i + len) * z) cs.length) with
     | true => match c with
      | some cv => A.bc (Nat.ble (len + k) cv)
        (spine (splice cs ((i + len) * z) ws) fun cs => putM A o (.sv h zz i (len + k) (some cv)) fr ((h, .row e0 z0 cs rc) :: H) n sz df log bs rd [h] K)
        (A.ob ((len + k) * z ≤ room) inferInstance <| spine ((cs.drop (i * z)).take (len * z) ++ ws) fun cs => putN A o (.sv n z 0 (len + k) none) fr ((n, .row e z cs none) :: H) (n + 1) sz df log bs (h :: rd) [n] K)
      | none => A.bc (Nat.ble ((i + len + k) * z) cs.length)
        (spine (splice cs ((i + len) * z) ws) fun cs => putM A o (.sv h zz i (len + k) none) fr ((h, .row e0 z0 cs rc) :: H) n sz df log bs rd [h] K)
        (match Nat.beq e0 e with
         | true => A.ob ((len + k) * z ≤ room) inferInstance <| spine ((cs.drop (i * z)).take (len * z) ++ ws) fun cs => putN A o (.sv n z 0 (len + k) none) fr ((h, .gone) :: (n, .row e z cs none) :: H) (n + 1) sz df log bs rd [h, n] K
         | false => A.bad)
     | false => A.stop o ⟨fr, H, n, sz, df, log, bs⟩ K
    | _ => A.stop o ⟨fr, H, n, sz, df, log, bs⟩ K
  | _ => A.stop o ⟨fr, H, n, sz, df, log, bs⟩ K
def copyG {α : Type} (A : Ans α) (o : Oper) (s : St) (K : St → α) (z : Nat) (xv : AV) (k : Nat) (ws : List AV) (rd : List Nat) : α :=
 match s with
 | ⟨fr, H, n, sz, df, log, bs⟩ => match xv with
  | .sv h zz i _ _ => match look H h with
   | some (.row e0 z0 cs rc) => match Nat.beq zz z && (Nat.beq z0 z && (Nat.ble (i * z) cs.length && Nat.blt 0 k)) with
    | true => spine (splice cs (i * z) ws) fun cs => putM A o (.int .i64 k) fr ((h, .row e0 z0 cs rc) :: H) n sz df log bs rd [h] K
    | false => A.stop o ⟨fr, H, n, sz, df, log, bs⟩ K
   | _ => A.stop o ⟨fr, H, n, sz, df, log, bs⟩ K
  | .slc h off _ _ => match look H h with
   | some (.box e0 cs) => match Nat.ble (off + k * z) cs.length with
    | true => spine (splice cs off ws) fun cs => putM A o (.int .i64 k) fr ((h, .box e0 cs) :: H) n sz df log bs rd [h] K
    | false => A.stop o ⟨fr, H, n, sz, df, log, bs⟩ K
   | _ => A.stop o ⟨fr, H, n, sz, df, log, bs⟩ K
  | _ => A.stop o ⟨fr, H, n, sz, df, log, bs⟩ K
def vcRow {α : Type} (A : Ans α) (T : Tab) (o : Oper) (s : St) (K : St → α) : α :=
 match s with
 | ⟨fr, H, n, sz, df, log, bs⟩ =>
  match o.op with
  | .buildSlice t m ps => match A.rows with
   | false => vcMem A T o ⟨fr, H, n, sz, df, log, bs⟩ K
   | true => match kindOf T t, evps fr ps.toList with
    | .slice e, some vs => match T e with
     | some ⟨_, z, zs, _⟩ => match fillA (fun i => some (i * z, z)) (repA m z zs) vs with
      | some cs => match Nat.beq zs.length z && Nat.ble (m * z) 16777216 with
       | true => spine cs fun cs => putN A o (.sv n z 0 m (some m)) fr ((n, .row e z cs (some m)) :: H) (n + 1) sz df log bs [] [n] K
       | false => A.bad
      | none => A.bad
     | none => A.bad
    | _, _ => A.bad
  | .makeSlice t x y => match kindOf T t, ev fr x, ev fr y with
   | .slice e, some (.int _ l1), some (.int _ c1) => match T e with
    | some ⟨_, z, zs, _⟩ => match Nat.beq zs.length z && Nat.blt 0 z with
     | true => A.ob (0 ≤ l1 ∧ l1 ≤ c1 ∧ c1 ≤ 4398046511104 ∧ c1.toNat * z ≤ 4398046511104) inferInstance <| spine (repA c1.toNat z zs) fun cs =>
       putN A o (.sv n z 0 l1.toNat (some c1.toNat)) fr ((n, .row e z cs (some c1.toNat)) :: H) (n + 1) sz df log bs [] [n] K
     | false => A.bad
    | none => A.bad
   | _, _, _ => A.bad
  | .call { callee := .builtin .append, args := xs, argTypes := ts } => match xs.toList, ts.toList with
   | [x, y], [t, t'] => match ev fr x, ev fr y with
    | some xv, some yv => match rowish A.rows xv yv with
     | false => vcMem A T o ⟨fr, H, n, sz, df, log, bs⟩ K
     | true => match kindOf T t, isSeq (kindOf T t') with
      | .slice e, true => match T e, srcOf H yv with
       | some ⟨_, z, zs, _⟩, some (r, _, rd) => match lenA yv r with
        | some k => match readsA z yv r k with
         | some ws => match ws.all leafA && (Nat.beq zs.length z && Nat.blt 0 z) with
          | true => appG A o ⟨fr, H, n, sz, df, log, bs⟩ K e z xv k ws rd
          | false => A.stop o ⟨fr, H, n, sz, df, log, bs⟩ K
         | none => A.stop o ⟨fr, H, n, sz, df, log, bs⟩ K
        | none => A.stop o ⟨fr, H, n, sz, df, log, bs⟩ K
       | _, _ => A.stop o ⟨fr, H, n, sz, df, log, bs⟩ K
      | _, _ => A.stop o ⟨fr, H, n, sz, df, log, bs⟩ K
    | _, _ => A.bad
   | _, _ => A.stop o ⟨fr, H, n, sz, df, log, bs⟩ K
  | .call { callee := .builtin .copy, args := xs, argTypes := ts } => match xs.toList, ts.toList with
   | [x, y], [t, _] => match ev fr x, ev fr y, kindOf T t with
    | some xv, some yv, .slice e => match T e, srcOf H xv, srcOf H yv with
     | some ⟨_, z, zs, _⟩, some (rx, _, rdx), some (r, _, rd) => match lenA xv rx, lenA yv r with
      | some l1, some l2 => match readsA z yv r (min l2 l1) with
       | some ws => match ws.all leafA && Nat.beq zs.length z with
        | true => match Nat.beq (min l2 l1) 0, ws, xv with
         | true, [], .str _ => A.bad
         | true, [], _ => putM A o (.int .i64 0) fr H n sz df log bs (rdx ++ rd) [] K
         | _, ws, xv => copyG A o ⟨fr, H, n, sz, df, log, bs⟩ K z xv (min l2 l1) ws rd
        | false => A.stop o ⟨fr, H, n, sz, df, log, bs⟩ K
       | none => A.stop o ⟨fr, H, n, sz, df, log, bs⟩ K
      | _, _ => A.stop o ⟨fr, H, n, sz, df, log, bs⟩ K
     | _, _, _ => A.stop o ⟨fr, H, n, sz, df, log, bs⟩ K
    | _, _, _ => A.stop o ⟨fr, H, n, sz, df, log, bs⟩ K
   | _, _ => A.stop o ⟨fr, H, n, sz, df, log, bs⟩ K
  | .call { callee := .builtin .clear, args := xs, argTypes := ts } => match xs.toList, ts.toList with
   | [x], [t] => match kindOf T t, ev fr x with
    | .slice e, some xv => match emptyS xv with
     | true => putM A o (.tup []) fr H n sz df log bs [] [] K
     | false => match T e, xv with
      | some ⟨_, z, zs, _⟩, .sv h zz i len _ => match look H h with
       | some (.row e0 z0 cs rc) => match Nat.beq zz z && (Nat.beq z0 z && (Nat.beq zs.length z && (zs.all leafA && (Nat.blt 0 z && (Nat.blt 0 len && Nat.ble (i * z) cs.length))))) with
        | true => spine (splice cs (i * z) (repA len z zs)) fun cs => putM A o (.tup []) fr ((h, .row e0 z0 cs rc) :: H) n sz df log bs [] [h] K
        | false => A.stop o ⟨fr, H, n, sz, df, log, bs⟩ K
       | _ => A.stop o ⟨fr, H, n, sz, df, log, bs⟩ K
      | _, _ => A.stop o ⟨fr, H, n, sz, df, log, bs⟩ K
    | _, _ => A.stop o ⟨fr, H, n, sz, df, log, bs⟩ K
   | _, _ => A.stop o ⟨fr, H, n, sz, df, log, bs⟩ K
  | .convert s d x => match kindOf T s, kindOf T d, ev fr x with
   | .slice e, .str, some (.sv h 1 i len _) => match kindOf T e, look H h with
    | .int .u8, some (.row _ 1 cs _) => match intsL (cs.drop i) len, Nat.ble (i + len) cs.length with
     | some l, true => putM A o (.str (strOfNums l)) fr H n sz df log bs [h] [] K
     | _, _ => A.stop o ⟨fr, H, n, sz, df, log, bs⟩ K
    | _, _ => A.stop o ⟨fr, H, n, sz, df, log, bs⟩ K
   | .str, .slice e, some (.str b) => match A.rows, kindOf T e with
    | true, .int .u8 => spine (bytesA b) fun cs => putN A o (.sv n 1 0 b.size none) fr ((n, .row e 1 cs none) :: H) (n + 1) sz df log bs [] [n] K
    | _, _ => vcMem A T o ⟨fr, H, n, sz, df, log, bs⟩ K
   | _, _, _ => vcMem A T o ⟨fr, H, n, sz, df, log, bs⟩ K
  | .call { callee := .builtin .len, args := xs, argTypes := ts } => match xs.toList, ts.toList with
   | [x], [t] => match kindOf T t, ev fr x with
    | .map _ _ _, some (.hd h) => match look H h with
     | some (.map L) => putM A o (.int .i64 L.length) fr H n sz df log bs [h] [] K
     | _ => A.stop o ⟨fr, H, n, sz, df, log, bs⟩ K
    | _, _ => A.stop o ⟨fr, H, n, sz, df, log, bs⟩ K
   | _, _ => A.stop o ⟨fr, H, n, sz, df, log, bs⟩ K
  | .lookup t x k ok => match kindOf T t, ev fr x, ev fr k with
   | .map kt et fl, some .nilm, some kv => match T et with
    | some r => match keyFit T kt fl kv, zeroA r with
     | true, some z => putM A o (okA' ok z false) fr H n sz df log bs [] [] K
     | _, _ => A.stop o ⟨fr, H, n, sz, df, log, bs⟩ K
    | none => A.stop o ⟨fr, H, n, sz, df, log, bs⟩ K
   | _, _, _ => vcMem A T o ⟨fr, H, n, sz, df, log, bs⟩ K
  | _ => vcMem A T o ⟨fr, H, n, sz, df, log, bs⟩ K
def vcRun0 {α : Type} (A : Ans α) (T : Tab) (o : Oper) (s : St) (K : St → α) : α :=
 match s with
 | ⟨fr, H, n, sz, df, log, bs⟩ =>
  match o.op with
  | .move x => match ev fr x with
   | some v => putF A o v fr H n sz df log bs K
   | none => A.bad
  | .assign x => match ev fr x with
   | some v => putF A o v fr H n sz df log bs K
   | none => A.bad
  | .alloc e => match T e with
   | some ⟨_, _, z, _⟩ => putN A o (.ptr n 0) fr ((n, .box e z) :: H) (n + 1) sz df log bs [] [n] K
   | none => A.bad
  | .box e x => match ev fr x with
   | some (.raw _) => A.bad
   | some v => spine (cellsOf v) fun cs => putN A o (.ptr n 0) fr ((n, .box e cs) :: H) (n + 1) sz df log bs [] [n] K
   | none => A.bad
  | .load t x => match ev fr x, T t with
   | some (.ptr h off), some ⟨ag, k, _, _⟩ => match look H h with
    | some (.box _ cs) => match readA ag k cs off with
     | some v => putM A o v fr H n sz df log bs [h] [] K
     | none => A.bad
    | _ => A.bad
   | some (.el h z i c), some ⟨ag, k, _, _⟩ => match look H h with
    | some (.abs D) => match (ag || Nat.beq k 1) && (Nat.beq z D.esz && Nat.ble (c + k) z), D.flat with
     | true, true => A.ob (i < D.len) inferInstance <| putM A o (readEl ag k (D.cell i) c) fr H n sz df log bs [h] [] K
     | _, _ => A.stop o ⟨fr, H, n, sz, df, log, bs⟩ K
    | some (.row _ z' cs _) => match Nat.beq z z', readA ag k cs (i * z + c) with
     | true, some v => putM A o v fr H n sz df log bs [h] [] K
     | _, _ => A.stop o ⟨fr, H, n, sz, df, log, bs⟩ K
    | _ => A.bad
   | _, _ => A.bad
  | .store t x y => match ev fr x, ev fr y, T t with
   | some (.ptr h off), some v, some ⟨_, k, _, _⟩ => match rawA v, look H h with
    | false, some (.box e cs) => match (cellsOf v).all leafA && (Nat.beq (cellsOf v).length k && Nat.ble (off + k) cs.length) with
     | true => spine (splice cs off (cellsOf v)) fun cs => putM A o (.raw undef) fr ((h, .box e cs) :: H) n sz df log bs [] [h] K
     | false => A.bad
    | _, _ => A.bad
   | some (.el h z i c), some v, some ⟨_, k, _, _⟩ => match rawA v, look H h with
    | false, some (.row e z' cs rc) => match Nat.beq z z' && ((cellsOf v).all leafA && (Nat.beq (cellsOf v).length k && Nat.ble (i * z + c + k) cs.length)) with
     | true => spine (splice cs (i * z + c) (cellsOf v)) fun cs => putM A o (.raw undef) fr ((h, .row e z' cs rc) :: H) n sz df log bs [] [h] K
     | false => A.stop o s K
    | _, _ => A.stop o s K
   | _, _, _ => A.stop o s K
  | .pick c a b => match ev fr c, ev fr a, ev fr b with
   | some (.bool t), some x, some y => A.bc t (putM A o x fr H n sz df log bs [] [] K) (putM A o y fr H n sz df log bs [] [] K)
   | _, _, _ => A.bad
  | .call { callee := .value f, args := xs, argTypes := _ } => match ev fr f, evs fr xs.toList with
   | some (.fn (.func g) l m), some us => spine (l ++ (us ++ m)) fun vs => A.call g vs o s K
   | some (.yld h), some us => A.yld h us o s K
   | _, _ => A.stop o s K
  | op => match aOpA T fr op with
   | .val v => putM A o v fr H n sz df log bs [] [] K
   | .ob p dp v => A.ob p dp <| putM A o v fr H n sz df log bs [] [] K
   | .no => vcRow A T o s K
def vcRun {α : Type} (A : Ans α) (T : Tab) (o : Oper) (s : St) (K : St → α) : α := A.pre o s K (vcRun0 A T o s K)
def skipK {α : Type} (A : Ans α) (o : Oper) (s : St) (K : St → α) : α :=
 match s with
 | ⟨fr, H, n, sz, df, log, bs⟩ => putM A o (.raw undef) fr H n sz df log bs [] [] K
def vcOp {α : Type} (A : Ans α) (T : Tab) (all : Array Oper) (o : Oper) (s : St) (K : St → α) : α :=
 match o.guard with
 | none => vcRun A T o s K
 | some (j, want) =>
  match (all[j]?).bind (·.dst) with
  | none => skipK A o s K
  | some d => match s with
   | ⟨fr, H, n, sz, df, log, bs⟩ => match look fr d with
    | some (.bool b) =>
     A.bc b
      (setB fr d true fun fr => match want with | true => vcRun A T o ⟨fr, H, n, sz, df, log, bs⟩ K | false => skipK A o ⟨fr, H, n, sz, df, log, bs⟩ K)
      (setB fr d false fun fr => match want with | true => skipK A o ⟨fr, H, n, sz, df, log, bs⟩ K | false => vcRun A T o ⟨fr, H, n, sz, df, log, bs⟩ K)
    | some (.raw v) => match rawBool v with
     | some _ => A.bad
     | none => skipK A o s K
    | _ => A.bad
def vcOps {α : Type} (A : Ans α) (T : Tab) (all : Array Oper) (l : List Oper) : St → (St → α) → α := List.rec (motive := fun _ => St → (St → α) → α) (fun s K => K s) (fun o _ ih s K => vcOp A T all o s fun s => ih s K) l
theorem putM_iff {P : Program} {α : Type} {Z : Ans α} {tr : α → Prop} (hO : OpAns P Z tr) {o : Oper} {v : AV} {fr : Fr} {H : Heap} {n sz : Nat} {df : List Df} {log : List (List Nat × List Nat)} {bs : Nat} {rd wr : List Nat} {K : St → α}
  (h : tr (putM Z o v fr H n sz df log bs rd wr K)) : (∀ d, o.dst = some d → d < sz) ∧ tr (K ⟨(match o.dst with | some d => [(d, v)] | none => []) ++ fr, H, n, sz, df, (rd, wr) :: log, bs⟩) := by
 unfold putM at h
 cases hd : o.dst with
 | none => rw [hd] at h; exact ⟨by simp, h⟩
 | some d =>
  rw [hd] at h
  simp only at h
  split at h
  ·rename_i hb
   rw [force_eq] at h
   exact ⟨by rintro e ⟨rfl⟩; simpa using hb, h⟩
  ·exact (hO.bad h).elim
theorem putN_iff {P : Program} {α : Type} {Z : Ans α} {tr : α → Prop} (hO : OpAns P Z tr) {o : Oper} {v : AV} {fr : Fr} {H : Heap} {n sz : Nat} {df : List Df} {log : List (List Nat × List Nat)} {bs : Nat} {rd wr : List Nat} {K : St → α}
  (h : tr (putN Z o v fr H n sz df log bs rd wr K)) : (∀ d, o.dst = some d → d < sz) ∧ tr (K ⟨(match o.dst with | some d => [(d, v)] | none => []) ++ fr, H, n, sz, df, (rd, wr) :: log, bs⟩) := by
 unfold putN at h
 rw [Z.num_eq] at h
 exact putM_iff hO h
theorem putF_iff {P : Program} {α : Type} {Z : Ans α} {tr : α → Prop} (hO : OpAns P Z tr) {o : Oper} {v : AV} {fr : Fr} {H : Heap} {n sz : Nat} {df : List Df} {log : List (List Nat × List Nat)} {bs : Nat} {K : St → α}
  (h : tr (putF Z o v fr H n sz df log bs K)) : (∀ d, o.dst = some d → d < sz) ∧ tr (K ⟨(match o.dst with | some d => [(d, v)] | none => []) ++ fr, H, n, sz, df, ([], []) :: log, bs⟩) := by
 unfold putF at h
 cases hd : o.dst with
 | none => rw [hd] at h; exact ⟨by simp, h⟩
 | some d =>
  rw [hd] at h
  simp only at h
  split at h
  ·rename_i hb
   exact ⟨by rintro e ⟨rfl⟩; simpa using hb, h⟩
  ·exact (hO.bad h).elim
theorem look_self {α : Type} (k : Nat) (v : α) : look [(k, v)] k = some v := by simp [lookC, Nat.beq_refl]
theorem sub_one {h : Nat} {r : Res} {H : Heap} (hl : look H h = some r) : Sub [(h, r)] H := by
 intro k x hk
 obtain ⟨rfl, rfl⟩ := look_one hk
 exact hl
theorem sub_nil {H : Heap} : Sub [] H := by intro k x hk; simp [lookN] at hk
theorem sub_two {h k : Nat} {r q : Res} {H : Heap} (h1 : look H h = some r) (h2 : look H k = some q) : Sub [(h, r), (k, q)] H := by
 intro c x hc
 rw [look_cons] at hc
 split at hc
 ·rename_i e; subst e; cases hc; exact h1
 ·obtain ⟨rfl, rfl⟩ := look_one hc; exact h2
theorem dom_two {h k : Nat} {r q r' q' : Res} : ∀ c x, look [(h, r), (k, q)] c = some x → ∃ x', look [(h, r'), (k, q')] c = some x' := by
 intro c x hc
 rw [look_cons] at hc ⊢
 split at hc
 ·rename_i e; exact ⟨r', by simp [e]⟩
 ·rename_i e
  obtain ⟨rfl, rfl⟩ := look_one hc
  exact ⟨q', by simp [e, look, Nat.beq_refl]⟩
theorem mem_two {h k : Nat} {r q : Res} : ∀ c x, look [(h, r), (k, q)] c = some x → c ∈ [h, k] := by
 intro c x hc
 rw [look_cons] at hc
 split at hc
 ·rename_i e; simp [e]
 ·obtain ⟨rfl, rfl⟩ := look_one hc; simp
theorem vcMore_stop {P : Program} {T : Tab} (hT : TabOK P T) {α : Type} {Z : Ans α} {tr : α → Prop} (hO : OpAns P Z tr) {o : Oper} {s : St} {K : St → α} (h : tr (vcMore Z T o s K)) : Stop P o s fun s => tr (K s) := by
 obtain ⟨fr, H, n, sz, df, log, bs⟩ := s
 unfold vcMore at h
 simp only at h
 split at h
 ·rename_i s d x ho
  split at h
  ·rename_i e hh len hs hd hx
   split at h
   ·rename_i D he lD
    split at h
    ·rename_i j l tD hz hl
     have hz := Nat.eq_of_beq_eq_true hz
     obtain ⟨g1, g2⟩ := putM_iff hO h
     exact ⟨⟨true, [(hh, .abs D)], [], [], n, n, .str (strOfNums l), [hh], []⟩, rfl, rfl, Nat.le_refl _, g1, (triple_b2s hT ho hx hs he hd tD hz hl).y, sub_one lD, sub_nil, by simp [lookN], fun k x hk => by simp [(look_one hk).1], by simp [lookN], g2⟩
    ·exact hO.stop h
   ·exact hO.stop h
  ·rename_i e hh off len cap hs hd hx
   split at h
   ·rename_i eb cs he lD
    split at h
    ·rename_i l hl
     obtain ⟨g1, g2⟩ := putM_iff hO h
     exact ⟨⟨true, [(hh, .box eb cs)], [], [], n, n, .str (strOfNums l), [hh], []⟩, rfl, rfl, Nat.le_refl _, g1, (triple_b2s_box hT ho hx hs he hd hl).y, sub_one lD, sub_nil, by simp [lookN], fun k x hk => by simp [(look_one hk).1], by simp [lookN], g2⟩
    ·exact hO.stop h
   ·exact hO.stop h
  ·rename_i e hs hd hx
   split at h
   ·rename_i he
    obtain ⟨g1, g2⟩ := putM_iff hO h
    exact ⟨⟨true, [], [], [], n, n, .str ByteArray.empty, [], []⟩, rfl, rfl, Nat.le_refl _, g1, (triple_b2s_nil hT ho hx hs he hd).y, sub_nil, sub_nil, by simp [lookN], by simp [lookN], by simp [lookN], g2⟩
   ·exact hO.stop h
  ·rename_i e b hs hd hx
   split at h
   ·rename_i he
    obtain ⟨g1, g2⟩ := putN_iff hO h
    exact ⟨⟨true, [], [], [(n, .abs (lst none b.size 1 (byteC b)))], n, n + 1, .sl n b.size, [], [n]⟩, rfl, rfl, Nat.le_succ _, g1, (triple_s2b hT ho hx hs hd he).y, sub_nil, sub_nil, by simp [lookN, lookC], by simp [lookN], fun k x hk => by simp [(look_one hk).1], g2⟩
   ·exact hO.stop h
  ·exact hO.stop h
 ·rename_i t ho
  obtain ⟨g1, g2⟩ := putN_iff hO h
  exact ⟨⟨true, [], [], [(n, .map [])], n, n + 1, .hd n, [], [n]⟩, rfl, rfl, Nat.le_succ _, g1, (triple_makeMap ho).y, sub_nil, sub_nil, by simp [lookN, lookC], by simp [lookN], fun k x hk => by simp [(look_one hk).1], g2⟩
 ·rename_i t x k ok ho
  split at h
  ·rename_i kt et fl hh kv hm hx hk
   split at h
   ·rename_i L r lL hr
    split at h
    ·rename_i z hb hz
     simp only [Bool.and_eq_true] at hb
     obtain ⟨g1, g2⟩ := putM_iff hO h
     exact ⟨⟨true, [(hh, .map L)], [], [], n, n, _, [hh], []⟩, rfl, rfl, Nat.le_refl _, g1, (triple_lookup hT ho hm hx hk hb.1 hb.2 hr hz).y, sub_one lL, sub_nil, by simp [lookN], fun k x hk => by simp [(look_one hk).1], by simp [lookN], g2⟩
    ·exact hO.stop h
   ·exact hO.stop h
  ·exact hO.stop h
 ·rename_i t x k y ho
  split at h
  ·rename_i kt et fl hh kv v hm hx hk hy
   split at h
   ·rename_i L lL
    split at h
    ·rename_i hb
     simp only [Bool.and_eq_true] at hb
     rw [spine_eq] at h
     obtain ⟨g1, g2⟩ := putM_iff hO h
     exact ⟨⟨true, [], [(hh, .map L)], [(hh, .map (updA L kv v))], n, n, .raw undef, [], [hh]⟩, rfl, rfl, Nat.le_refl _, g1, (triple_update hT ho hm hx hk hy hb.1 hb.2).y, sub_nil, sub_one lL,
      fun k x hk => ⟨_, by have e := (look_one hk).1; subst e; exact look_self _ _⟩, by simp [lookN], fun k x hk => by simp [(look_one hk).1], g2⟩
    ·exact hO.stop h
   ·exact hO.stop h
  ·exact hO.stop h
 ·rename_i xs ts ho
  split at h
  ·rename_i x k t t2 hxs hts
   have hx1 : xs = #[x, k] := by apply Array.ext'; simpa using hxs
   have ht1 : ts = #[t, t2] := by apply Array.ext'; simpa using hts
   subst hx1; subst ht1
   split at h
   ·rename_i kt et fl hh kv hm hx hk
    split at h
    ·rename_i L lL
     split at h
     ·rename_i hb
      simp only [Bool.and_eq_true] at hb
      rw [spine_eq] at h
      obtain ⟨g1, g2⟩ := putM_iff hO h
      exact ⟨⟨true, [], [(hh, .map L)], [(hh, .map (delA L kv))], n, n, .tup [], [], [hh]⟩, rfl, rfl, Nat.le_refl _, g1, (triple_delete hT ho hm hx hk hb.1 hb.2).y, sub_nil, sub_one lL,
       fun k x hk => ⟨_, by have e := (look_one hk).1; subst e; exact look_self _ _⟩, by simp [lookN], fun k x hk => by simp [(look_one hk).1], g2⟩
     ·exact hO.stop h
    ·exact hO.stop h
   ·exact hO.stop h
  ·exact hO.stop h
 ·rename_i t x ho
  split at h
  ·rename_i kt et fl hh hm hx
   split at h
   ·rename_i L lL
    obtain ⟨g1, g2⟩ := putN_iff hO h
    exact ⟨⟨true, [], [(hh, .map L)], [(hh, .rmap L L [] n), (n, .iter hh)], n, n + 1, .ptr n 0, [], [hh, n]⟩, rfl, rfl, Nat.le_succ _, g1, (triple_range hT ho hm hx).y, sub_nil, sub_one lL,
     fun k x hk => ⟨_, by have e := (look_one hk).1; subst e; exact (by simp [lookC, Nat.beq_refl] : look [(k, Res.rmap L L [] n), (n, Res.iter k)] k = some (.rmap L L [] n))⟩, by simp [lookN], mem_two, g2⟩
   ·exact hO.stop h
  ·exact hO.stop h
 ·rename_i x ho
  split at h
  ·rename_i it hx
   split at h
   ·rename_i hh lI
    split at h
    ·rename_i L cur it' lL hne
     split at h
     ·rename_i hb
      have hb := Nat.eq_of_beq_eq_true hb
      subst hb
      have hne : hh ≠ it' := by rintro rfl; simp [Nat.beq_refl] at hne
      obtain ⟨g1, g2⟩ := putM_iff hO h
      exact ⟨⟨true, [], [(hh, .rmap L [] cur it'), (it', .iter hh)], [(hh, .map L), (it', .gone)], n, n, .tup [.bool false], [], [hh, it']⟩, rfl, rfl, Nat.le_refl _, g1, (triple_next_end ho hx hne).y, sub_nil, sub_two lL lI, dom_two, by simp [lookN], mem_two, g2⟩
     ·exact hO.stop h
    ·rename_i L kv v cur it' lL hne
     split at h
     ·rename_i hb
      have hb := Nat.eq_of_beq_eq_true hb
      subst hb
      have hne : hh ≠ it' := by rintro rfl; simp [Nat.beq_refl] at hne
      obtain ⟨g1, g2⟩ := putM_iff hO h
      exact ⟨⟨true, [], [(hh, .rmap L [(kv, v)] cur it'), (it', .iter hh)], [(hh, .rmap L [] [(kv, v)] it'), (it', .iter hh)], n, n, .tup [.bool true, kv, v], [], [hh, it']⟩, rfl, rfl, Nat.le_refl _, g1, (triple_next_one ho hx hne).y, sub_nil, sub_two lL lI, dom_two, by simp [lookN], mem_two, g2⟩
     ·exact hO.stop h
    ·exact hO.stop h
   ·exact hO.stop h
  ·exact hO.stop h
 ·rename_i x ho
  split at h
  ·rename_i it hx
   split at h
   ·rename_i hh lI
    split at h
    ·rename_i L todo kv v it' lL
     split at h
     ·rename_i hb
      have hb := Nat.eq_of_beq_eq_true hb
      subst hb
      obtain ⟨g1, g2⟩ := putM_iff hO h
      exact ⟨⟨true, [(hh, .rmap L todo [(kv, v)] it')], [], [], n, n, .tup [kv, v], [hh], []⟩, rfl, rfl, Nat.le_refl _, g1, (triple_entry ho hx).y, sub_one lL, sub_nil, by simp [lookN], fun k x hk => by simp [(look_one hk).1], by simp [lookN], g2⟩
     ·exact hO.stop h
    ·exact hO.stop h
   ·exact hO.stop h
  ·exact hO.stop h
 ·exact hO.stop h
theorem vcMem_stop {P : Program} {T : Tab} (hT : TabOK P T) {α : Type} {Z : Ans α} {tr : α → Prop} (hO : OpAns P Z tr) {o : Oper} {s : St} {K : St → α} (h : tr (vcMem Z T o s K)) : Stop P o s fun s => tr (K s) := by
 obtain ⟨fr, H, n, sz, df, log, bs⟩ := s
 unfold vcMem at h
 simp only at h
 split at h
 ·rename_i t m ps ho
  split at h
  ·rename_i e vs hk hv
   split at h
   ·rename_i ag z zs kk hr
    split at h
    ·rename_i cs hf
     split at h
     ·rename_i hb
      simp only [Bool.and_eq_true] at hb
      obtain ⟨b1, b2, b3, b4⟩ := hb
      rw [spine_eq] at h
      obtain ⟨h1, h2⟩ := putN_iff hO h
      exact ⟨⟨true, [], [], [(n, .abs (lst (some e) m z (cellsAt cs z)))], n, n + 1, .sl n m, [], [n]⟩, rfl, rfl, Nat.le_succ _, h1, (triple_build hT ho hk hr hv b1 b2 b3 hf b4).y, sub_nil, sub_nil, by simp [lookN, lookC], by simp [lookN], fun k x hk => by simp [(look_one hk).1], h2⟩
     ·exact hO.stop h
    ·exact hO.stop h
   ·exact (hO.bad h).elim
  ·exact (hO.bad h).elim
 ·rename_i xs ts ho
  split at h
  ·rename_i x y t t' hxs hts
   have hx1 : xs = #[x, y] := by apply Array.ext'; simpa using hxs
   have ht1 : ts = #[t, t'] := by apply Array.ext'; simpa using hts
   subst hx1; subst ht1
   split at h
   ·rename_i e hh l1 h2 l2 hk htt hx hy
    have htt := Nat.eq_of_beq_eq_true htt
    subst htt
    split at h
    ·rename_i ag z zs kk A B hr lA lB
     split at h
     ·rename_i e' j tA tB hb
      simp only [Bool.and_eq_true, Bool.not_eq_true', Nat.blt_eq] at hb
      obtain ⟨b1, b2, b3, b4, b5⟩ := hb
      have hne : hh ≠ h2 := by rintro rfl; simp [Nat.beq_refl] at b5
      split at h
      ·rename_i he
       have he := Nat.eq_of_beq_eq_true he
       subst he
       obtain ⟨g0, h⟩ := hO.ob h
       obtain ⟨g1, g2⟩ := putN_iff hO h
       refine ⟨⟨true, [(h2, .abs B)], [(hh, .abs A)], [(hh, .gone), (n, .abs (lst (some e') (A.len + B.len) z (appC A.len A.cell B.cell)))], n, n + 1, .sl n (A.len + B.len), [h2], [hh, n]⟩, rfl, rfl, Nat.le_succ _, g1,
        (triple_append hT ho hx hy hk hr tA tB (Nat.eq_of_beq_eq_true b1) (Nat.eq_of_beq_eq_true b2) b3 (Nat.eq_of_beq_eq_true b4) hne g0).y, sub_one lB, sub_one lA, ?_, fun k x hk => by simp [(look_one hk).1], ?_, g2⟩
       ·intro k x hk
        have e := (look_one hk).1; subst e
        exact ⟨.gone, by simp [lookC, Nat.beq_refl]⟩
       ·intro k x hk
        simp only [look_cons] at hk
        split at hk
        ·rename_i e; simp [e]
        ·split at hk
         ·rename_i e; simp [e]
         ·simp [lookN] at hk
      ·exact (hO.bad h).elim
     ·exact hO.stop h
    ·exact hO.stop h
   ·rename_i e h2 l2 hk htt hx hy
    have htt := Nat.eq_of_beq_eq_true htt
    subst htt
    split at h
    ·rename_i ag z zs kk B hr lB
     split at h
     ·rename_i j tB hb
      simp only [Bool.and_eq_true, Nat.blt_eq] at hb
      obtain ⟨b2, b3, b4⟩ := hb
      obtain ⟨g0, h⟩ := hO.ob h
      obtain ⟨g1, g2⟩ := putN_iff hO h
      exact ⟨⟨true, [(h2, .abs B)], [], [(n, .abs (lst (some e) B.len z B.cell))], n, n + 1, .sl n B.len, [h2], [n]⟩, rfl, rfl, Nat.le_succ _, g1,
       (triple_append_nil hT ho hx hy hk hr tB (Nat.eq_of_beq_eq_true b2) b3 (Nat.eq_of_beq_eq_true b4) g0).y, sub_one lB, sub_nil, by simp [lookN, lookC], fun k x hk => by simp [(look_one hk).1], fun k x hk => by simp [(look_one hk).1], g2⟩
     ·exact hO.stop h
    ·exact hO.stop h
   ·exact hO.stop h
  ·exact hO.stop h
 ·rename_i t x lx hx ho
  split at h
  ·rename_i e hh len l u hk hxv hl hu
   split at h
   ·rename_i ag z zs kk A hr lA
    split at h
    ·rename_i p lo hi tA hz hb
     have hz := Nat.eq_of_beq_eq_true hz
     subst hz
     obtain ⟨g0, h⟩ := hO.ob h
     obtain ⟨g1, g2⟩ := putN_iff hO h
     exact ⟨⟨true, [(hh, .abs A)], [], [(n, .abs (lst none (hi - lo) A.esz (subC lo A.cell)))], n, n + 1, .sl n (hi - lo), [hh], [n]⟩, rfl, rfl, Nat.le_succ _, g1,
      (triple_slice hT ho hxv hl hu hk hr tA hb g0).y, sub_one lA, sub_nil, by simp [lookN, lookC], fun k x hk => by simp [(look_one hk).1], fun k x hk => by simp [(look_one hk).1], g2⟩
    ·exact hO.stop h
   ·exact hO.stop h
  ·exact hO.stop h
 ·exact vcMore_stop hT hO h
theorem srcOf_ok {H : Heap} {y : AV} {r : Option Res} {R : Heap} {rd : List Nat} (h : srcOf H y = some (r, R, rd)) :
  (∀ k, srcH y = some k → ∃ q, r = some q ∧ look R k = some q ∧ look H k = some q) ∧ Sub R H ∧ (∀ k x, look R k = some x → k ∈ rd) := by
 unfold srcOf at h
 split at h
 ·rename_i hn
  cases h
  exact ⟨fun k hk => (by rw [hn] at hk; cases hk), sub_nil, by simp [lookN]⟩
 ·rename_i hh hs
  split at h
  ·rename_i q hq
   cases h
   refine ⟨fun k hk => ?_, sub_one hq, fun k x hk => by simp [(look_one hk).1]⟩
   rw [hs] at hk; cases hk
   exact ⟨q, rfl, look_self _ _, hq⟩
  ·cases h
theorem isSeq_ok {k : TK} (h : isSeq k = true) : (∃ e, k = .slice e) ∨ k = .str := by
 cases k <;> simp [isSeq] at h ⊢
theorem sub_append {A B H : Heap} (h1 : Sub A H) (h2 : Sub B H) : Sub (A ++ B) H := by
 intro k x hk
 rw [look_append] at hk
 cases hq : look A k with
 | some y => rw [hq] at hk; simp at hk; subst hk; exact h1 _ _ hq
 | none => rw [hq] at hk; simp at hk; exact h2 _ _ hk
theorem mem_append' {A B : Heap} {a b : List Nat} (h1 : ∀ k x, look A k = some x → k ∈ a) (h2 : ∀ k x, look B k = some x → k ∈ b) : ∀ k x, look (A ++ B) k = some x → k ∈ a ++ b := by
 intro k x hk
 rw [look_append] at hk
 cases hq : look A k with
 | some y => exact List.mem_append_left _ (h1 _ _ hq)
 | none => rw [hq] at hk; simp at hk; exact List.mem_append_right _ (h2 _ _ hk)
theorem look_pre {H R : Heap} {h k : Nat} {q0 q : Res} (h0 : look H h = some q0) (hR : look R k = some q) (hH : look H k = some q) : look ([(h, q0)] ++ R) k = some q := by
 rw [List.singleton_append, look_cons]
 split
 ·rename_i e; subst e; rw [h0] at hH; exact hH
 ·exact hR
theorem dom_self {h : Nat} {r r' : Res} : ∀ k x, look [(h, r)] k = some x → ∃ x', look [(h, r')] k = some x' := by
 intro k x hk
 have e := (look_one hk).1; subst e
 exact ⟨_, look_self _ _⟩
theorem appG_stop {P : Program} {T : Tab} (hT : TabOK P T) {α : Type} {Z : Ans α} {tr : α → Prop} (hO : OpAns P Z tr) {o : Oper} {s : St} {K : St → α} {e z k t t' : Nat} {x y : Operand} {xv yv : AV} {ws zs : List AV} {ag : Bool} {kk : TK} {r : Option Res} {R : Heap} {rd : List Nat}
  (ho : isAppend o x y t t') (hx : ev s.fr x = some xv) (hy : ev s.fr y = some yv) (hk : kindOf T t = .slice e) (hr : T e = some ⟨ag, z, zs, kk⟩) (hzl : zs.length = z) (hk' : (∃ e, kindOf T t' = .slice e) ∨ kindOf T t' = .str)
  (hsr : srcOf s.H yv = some (r, R, rd)) (hln : lenA yv r = some k) (hrd : readsA z yv r k = some ws) (hl : ws.all leafA = true) (hz0 : 0 < z) (h : tr (appG Z o s K e z xv k ws rd)) : Stop P o s fun s => tr (K s) := by
 obtain ⟨fr, H, n, sz, df, log, bs⟩ := s
 simp only at hx hy hsr
 obtain ⟨c1, c2, c3⟩ := srcOf_ok hsr
 have ws0 : k = 0 → ws = [] := by
  intro h0
  subst h0
  unfold readsA at hrd
  split at hrd
  ·split at hrd
   ·cases hrd; rfl
   ·cases hrd
  ·split at hrd
   ·cases hrd; simp
   ·cases hrd
  ·split at hrd
   ·cases hrd; simp
   ·cases hrd
  ·split at hrd
   ·cases hrd; simp
   ·cases hrd
  ·split at hrd
   ·cases hrd; simp [flatC]
   ·cases hrd
  ·cases hrd
 unfold appG at h
 simp only at h
 split at h
 ·split at h
  ·rename_i h0
   have h0 := Nat.eq_of_beq_eq_true h0
   have hw := ws0 h0
   subst h0; subst hw
   obtain ⟨g1, g2⟩ := putM_iff hO h
   exact ⟨⟨true, R, [], [], n, n, .nils, rd, []⟩, rfl, rfl, Nat.le_refl _, g1, (triple_app_nil0 hT ho hx hy hk hr hzl hk' (fun k hk => let ⟨q, a1, a2, _⟩ := c1 k hk; ⟨q, a1, a2⟩) hln hrd).y, c2, sub_nil, by simp [lookN], c3, by simp [lookN], g2⟩
  ·rename_i h0
   have h0 : 0 < k := Nat.pos_of_ne_zero (by rintro rfl; simp [Nat.beq_refl] at h0)
   obtain ⟨g0, h⟩ := hO.ob h
   rw [spine_eq] at h
   obtain ⟨g1, g2⟩ := putN_iff hO h
   exact ⟨⟨true, R, [], [(n, .row e z ([] ++ ws) none)], n, n + 1, .sv n z 0 (0 + k) none, rd, [n]⟩, rfl, rfl, Nat.le_succ _, g1,
    (triple_app_new (rx := none) hT ho hx hy hk hr hzl hk' (fun h' hh => by simp [srcH] at hh) (fun k hk => let ⟨q, a1, a2, _⟩ := c1 k hk; ⟨q, a1, a2⟩) (by rfl) (by rfl) hln hrd hl hz0 h0 g0 (.inl rfl)).y, c2, sub_nil, by simp [lookN, lookC], c3, fun k x hk => by simp [(look_one hk).1], g2⟩
 ·rename_i hh zz i len c
  split at h
  ·rename_i h0
   have h0 := Nat.eq_of_beq_eq_true h0
   have hw := ws0 h0
   subst h0; subst hw
   obtain ⟨g1, g2⟩ := putM_iff hO h
   exact ⟨⟨true, R, [], [], n, n, .sv hh zz i len c, rd, []⟩, rfl, rfl, Nat.le_refl _, g1, (triple_app_zero hT ho hx hy hk hr hzl hk' (fun k hk => let ⟨q, a1, a2, _⟩ := c1 k hk; ⟨q, a1, a2⟩) hln hrd).y, c2, sub_nil, by simp [lookN], c3, by simp [lookN], g2⟩
  ·rename_i h0
   have h0 : 0 < k := Nat.pos_of_ne_zero (by rintro rfl; simp [Nat.beq_refl] at h0)
   split at h
   ·rename_i e0 z0 cs rc lH
    split at h
    ·rename_i hb
     simp only [Bool.and_eq_true] at hb
     obtain ⟨b1, b2, b3⟩ := hb
     have b1 := Nat.eq_of_beq_eq_true b1
     have b2 := Nat.eq_of_beq_eq_true b2
     have b3 := Nat.le_of_ble_eq_true b3
     subst b1; subst b2
     have hpre : ∀ h', srcH yv = some h' → ∃ q, r = some q ∧ look ([(hh, .row e0 z0 cs rc)] ++ R) h' = some q := fun k hk => let ⟨q, a1, a2, a3⟩ := c1 k hk; ⟨q, a1, look_pre lH a2 a3⟩
     split at h
     ·rename_i cv
      obtain ⟨y1, y2⟩ := hO.bc h
      cases hble : Nat.ble (len + k) cv with
      | true =>
       have h := y1 hble
       rw [spine_eq] at h
       obtain ⟨g1, g2⟩ := putM_iff hO h
       exact ⟨⟨true, R, [(hh, .row e0 z0 cs rc)], [(hh, .row e0 z0 (splice cs ((i + len) * z0) ws) rc)], n, n, .sv hh z0 i (len + k) (some cv), rd, [hh]⟩, rfl, rfl, Nat.le_refl _, g1,
        (triple_app_in hT ho hx hy hk hr hzl hk' hpre hln hrd hl hz0 h0 b3 (.inl ⟨cv, rfl, Nat.le_of_ble_eq_true hble⟩)).y, c2, sub_one lH, dom_self, c3, fun k x hk => by simp [(look_one hk).1], g2⟩
      | false =>
       have h := y2 hble
       have hcv : cv < len + k := by
        rcases Nat.lt_or_ge cv (len + k) with q | q
        ·exact q
        ·rw [Nat.ble_eq_true_of_le q] at hble; cases hble
       obtain ⟨g0, h⟩ := hO.ob h
       rw [spine_eq] at h
       obtain ⟨g1, g2⟩ := putN_iff hO h
       refine ⟨⟨true, [(hh, .row e0 z0 cs rc)] ++ R, [], [(n, .row e z0 ((cs.drop (i * z0)).take (len * z0) ++ ws) none)], n, n + 1, .sv n z0 0 (len + k) none, hh :: rd, [n]⟩, rfl, rfl, Nat.le_succ _, g1,
        (triple_app_new (rx := some (.row e0 z0 cs rc)) hT ho hx hy hk hr hzl hk' (fun h' hh' => ?_) hpre (by rfl) ?_ hln hrd hl hz0 h0 g0 (.inr ⟨hh, z0, i, cv, rfl, hcv⟩)).y, sub_append (sub_one lH) c2, sub_nil, by simp [lookN, lookC], ?_, fun k x hk => by simp [(look_one hk).1], g2⟩
       ·simp only [srcH, Option.some.injEq] at hh'; subst hh'
        exact ⟨_, rfl, by simp [lookC, Nat.beq_refl]⟩
       ·unfold readsA
        have : Nat.ble (i * z0 + len * z0) cs.length = true := Nat.ble_eq_true_of_le (by rw [← Nat.add_mul]; exact b3)
        simp only [Nat.beq_refl, this, Bool.and_self]
       ·exact mem_append' (a := [hh]) (fun k x hk => by simp [(look_one hk).1]) c3
     ·obtain ⟨y1, y2⟩ := hO.bc h
      cases hble : Nat.ble ((i + len + k) * z0) cs.length with
      | true =>
       have h := y1 hble
       rw [spine_eq] at h
       obtain ⟨g1, g2⟩ := putM_iff hO h
       exact ⟨⟨true, R, [(hh, .row e0 z0 cs rc)], [(hh, .row e0 z0 (splice cs ((i + len) * z0) ws) rc)], n, n, .sv hh z0 i (len + k) none, rd, [hh]⟩, rfl, rfl, Nat.le_refl _, g1,
        (triple_app_in hT ho hx hy hk hr hzl hk' hpre hln hrd hl hz0 h0 b3 (.inr ⟨rfl, Nat.le_of_ble_eq_true hble⟩)).y, c2, sub_one lH, dom_self, c3, fun k x hk => by simp [(look_one hk).1], g2⟩
      | false =>
       have h := y2 hble
       split at h
       ·rename_i he
        have he := Nat.eq_of_beq_eq_true he
        subst he
        obtain ⟨g0, h⟩ := hO.ob h
        rw [spine_eq] at h
        obtain ⟨g1, g2⟩ := putN_iff hO h
        refine ⟨⟨true, R, [(hh, .row e0 z0 cs rc)], [(hh, .gone), (n, .row e0 z0 ((cs.drop (i * z0)).take (len * z0) ++ ws) none)], n, n + 1, .sv n z0 0 (len + k) none, rd, [hh, n]⟩, rfl, rfl, Nat.le_succ _, g1,
         (triple_app_open hT ho hx hy hk hr hzl hk' hpre hln hrd hl hz0 h0 b3 g0).y, c2, sub_one lH, ?_, c3, mem_two, g2⟩
        intro k x hk
        have e := (look_one hk).1; subst e
        exact ⟨.gone, by simp [lookC, Nat.beq_refl]⟩
       ·exact (hO.bad h).elim
    ·exact hO.stop h
   ·exact hO.stop h
 ·exact hO.stop h
theorem copyG_stop {P : Program} {T : Tab} (hT : TabOK P T) {α : Type} {Z : Ans α} {tr : α → Prop} (hO : OpAns P Z tr) {o : Oper} {s : St} {K : St → α} {e z t t' l1 l2 : Nat} {x y : Operand} {xv yv : AV} {ws zs : List AV} {ag : Bool} {kk : TK} {rx r : Option Res} {R : Heap} {rd : List Nat}
  (ho : o.op = .call { callee := .builtin .copy, args := #[x, y], argTypes := #[t, t'] }) (hx : ev s.fr x = some xv) (hy : ev s.fr y = some yv) (hk : kindOf T t = .slice e) (hr : T e = some ⟨ag, z, zs, kk⟩) (hzl : zs.length = z)
  (hsr : srcOf s.H yv = some (r, R, rd)) (hlx : lenA xv rx = some l1) (hln : lenA yv r = some l2) (hrd : readsA z yv r (min l2 l1) = some ws) (hl : ws.all leafA = true) (h : tr (copyG Z o s K z xv (min l2 l1) ws rd)) : Stop P o s fun s => tr (K s) := by
 obtain ⟨fr, H, n, sz, df, log, bs⟩ := s
 simp only at hx hy hsr
 obtain ⟨c1, c2, c3⟩ := srcOf_ok hsr
 unfold copyG at h
 simp only at h
 split at h
 ·rename_i hh zz i len c
  split at h
  ·rename_i e0 z0 cs rc lH
   split at h
   ·rename_i hb
    simp only [Bool.and_eq_true, Nat.blt_eq] at hb
    obtain ⟨b1, b2, b3, b4⟩ := hb
    have b1 := Nat.eq_of_beq_eq_true b1
    have b2 := Nat.eq_of_beq_eq_true b2
    have b3 := Nat.le_of_ble_eq_true b3
    subst b1; subst b2
    rw [spine_eq] at h
    obtain ⟨g1, g2⟩ := putM_iff hO h
    simp only [lenA, Option.some.injEq] at hlx
    subst hlx
    exact ⟨⟨true, R, [(hh, .row e0 z0 cs rc)], [(hh, .row e0 z0 (splice cs (i * z0) ws) rc)], n, n, .int .i64 (min l2 len : Nat), rd, [hh]⟩, rfl, rfl, Nat.le_refl _, g1,
     (triple_copy_row hT ho hx hy hk hr hzl (fun k hk => let ⟨q, a1, a2, a3⟩ := c1 k hk; ⟨q, a1, look_pre lH a2 a3⟩) hln rfl hrd hl b4 b3).y, c2, sub_one lH, dom_self, c3, fun k x hk => by simp [(look_one hk).1], g2⟩
   ·exact hO.stop h
  ·exact hO.stop h
 ·rename_i hh off len cap
  split at h
  ·rename_i e0 cs lH
   split at h
   ·rename_i b3
    have b3 := Nat.le_of_ble_eq_true b3
    rw [spine_eq] at h
    obtain ⟨g1, g2⟩ := putM_iff hO h
    simp only [lenA, Option.some.injEq] at hlx
    subst hlx
    exact ⟨⟨true, R, [(hh, .box e0 cs)], [(hh, .box e0 (splice cs off ws))], n, n, .int .i64 (min l2 len : Nat), rd, [hh]⟩, rfl, rfl, Nat.le_refl _, g1,
     (triple_copy_box hT ho hx hy hk hr hzl (fun k hk => let ⟨q, a1, a2, a3⟩ := c1 k hk; ⟨q, a1, look_pre lH a2 a3⟩) hln rfl hrd hl b3).y, c2, sub_one lH, dom_self, c3, fun k x hk => by simp [(look_one hk).1], g2⟩
   ·exact hO.stop h
  ·exact hO.stop h
 ·exact hO.stop h
theorem two_list {α : Type} {xs : Array α} {x y : α} (h : xs.toList = [x, y]) : xs = #[x, y] := by apply Array.ext'; simpa using h
theorem one_list {α : Type} {xs : Array α} {x : α} (h : xs.toList = [x]) : xs = #[x] := by apply Array.ext'; simpa using h
theorem vcRow_stop {P : Program} {T : Tab} (hT : TabOK P T) {α : Type} {Z : Ans α} {tr : α → Prop} (hO : OpAns P Z tr) {o : Oper} {s : St} {K : St → α} (h : tr (vcRow Z T o s K)) : Stop P o s fun s => tr (K s) := by
 obtain ⟨fr, H, n, sz, df, log, bs⟩ := s
 unfold vcRow at h
 simp only at h
 split at h
 ·rename_i t m ps ho
  split at h
  ·exact vcMem_stop hT hO h
  ·split at h
   ·rename_i e vs hk hv
    split at h
    ·rename_i ag z zs kk hr
     split at h
     ·rename_i cs hf
      split at h
      ·rename_i hb
       simp only [Bool.and_eq_true] at hb
       rw [spine_eq] at h
       obtain ⟨g1, g2⟩ := putN_iff hO h
       exact ⟨⟨true, [], [], [(n, .row e z cs (some m))], n, n + 1, .sv n z 0 m (some m), [], [n]⟩, rfl, rfl, Nat.le_succ _, g1, (triple_build_row hT ho hk hr hv hb.1 hb.2 hf).y, sub_nil, sub_nil, by simp [lookN, lookC], by simp [lookN], fun k x hk => by simp [(look_one hk).1], g2⟩
      ·exact (hO.bad h).elim
     ·exact (hO.bad h).elim
    ·exact (hO.bad h).elim
   ·exact (hO.bad h).elim
 ·rename_i t x y ho
  split at h
  ·rename_i e k1 l1 k2 c1 hk hx hy
   split at h
   ·rename_i ag z zs kk hr
    split at h
    ·rename_i hb
     simp only [Bool.and_eq_true] at hb
     obtain ⟨g0, h⟩ := hO.ob h
     rw [spine_eq] at h
     obtain ⟨g1, g2⟩ := putN_iff hO h
     exact ⟨⟨true, [], [], [(n, .row e z (repA c1.toNat z zs) (some c1.toNat))], n, n + 1, .sv n z 0 l1.toNat (some c1.toNat), [], [n]⟩, rfl, rfl, Nat.le_succ _, g1,
      (triple_makeSlice hT ho hk hr hx hy hb.1 ⟨g0.1, g0.2.1, g0.2.2.1, g0.2.2.2, rfl, rfl⟩ hb.2).y, sub_nil, sub_nil, by simp [lookN, lookC], by simp [lookN], fun k x hk => by simp [(look_one hk).1], g2⟩
    ·exact (hO.bad h).elim
   ·exact (hO.bad h).elim
  ·exact (hO.bad h).elim
 ·rename_i xs ts ho
  split at h
  ·rename_i x y t t' hxs hts
   have hx1 := two_list hxs
   have ht1 := two_list hts
   subst hx1; subst ht1
   split at h
   ·rename_i xv yv hx hy
    split at h
    ·exact vcMem_stop hT hO h
    ·split at h
     ·rename_i e hk hseq
      split at h
      ·rename_i ag z zs kk r R rd hr hsr
       split at h
       ·rename_i k hln
        split at h
        ·rename_i ws hrd
         split at h
         ·rename_i hb
          simp only [Bool.and_eq_true, Nat.blt_eq] at hb
          exact appG_stop hT hO ho hx hy hk hr (Nat.eq_of_beq_eq_true hb.2.1) (isSeq_ok hseq) hsr hln hrd hb.1 hb.2.2 h
         ·exact hO.stop h
        ·exact hO.stop h
       ·exact hO.stop h
      ·exact hO.stop h
     ·exact hO.stop h
   ·exact (hO.bad h).elim
  ·exact hO.stop h
 ·rename_i xs ts ho
  split at h
  ·rename_i x y t t' hxs hts
   have hx1 := two_list hxs
   have ht1 := two_list hts
   subst hx1; subst ht1
   split at h
   ·rename_i xv yv e hx hy hk
    split at h
    ·rename_i ag z zs kk rx Rx rdx r R rd hr hsx hsr
     split at h
     ·rename_i l1 l2 hlx hln
      split at h
      ·rename_i ws hrd
       split at h
       ·rename_i hb
        simp only [Bool.and_eq_true] at hb
        have hzl := Nat.eq_of_beq_eq_true hb.2
        split at h
        ·exact (hO.bad h).elim
        ·rename_i hm hns
         have hm := Nat.eq_of_beq_eq_true hm
         rw [hm] at hrd
         obtain ⟨g1, g2⟩ := putM_iff hO h
         obtain ⟨c1, c2, c3⟩ := srcOf_ok hsr
         obtain ⟨d1, d2, d3⟩ := srcOf_ok hsx
         refine ⟨⟨true, Rx ++ R, [], [], n, n, .int .i64 0, rdx ++ rd, []⟩, rfl, rfl, Nat.le_refl _, g1, (triple_copy_zero hT ho hx hy hk hr hzl (fun k hk => ?_) (fun k hk => ?_) hlx hln hm (fun s hs => hns s hs) hrd).y, sub_append d2 c2, sub_nil, by simp [lookN], mem_append' d3 c3, by simp [lookN], g2⟩
         ·obtain ⟨q, a1, a2, a3⟩ := d1 k hk
          exact ⟨q, a1, by rw [look_append, a2]; rfl⟩
         ·obtain ⟨q, a1, a2, a3⟩ := c1 k hk
          refine ⟨q, a1, ?_⟩
          rw [look_append]
          cases hq : look Rx k with
          | none => simpa using a2
          | some q' => have := d2 _ _ hq; rw [a3] at this; cases this; rfl
        ·exact copyG_stop hT hO ho hx hy hk hr hzl hsr hlx hln hrd hb.1 h
       ·exact hO.stop h
      ·exact hO.stop h
     ·exact hO.stop h
    ·exact hO.stop h
   ·exact hO.stop h
  ·exact hO.stop h
 ·rename_i xs ts ho
  split at h
  ·rename_i x t hxs hts
   have hx1 := one_list hxs
   have ht1 := one_list hts
   subst hx1; subst ht1
   split at h
   ·rename_i e xv hk hx
    split at h
    ·rename_i hem
     obtain ⟨g1, g2⟩ := putM_iff hO h
     exact ⟨⟨true, [], [], [], n, n, .tup [], [], []⟩, rfl, rfl, Nat.le_refl _, g1, (triple_clear_zero hT ho hx hk hem).y, sub_nil, sub_nil, by simp [lookN], by simp [lookN], by simp [lookN], g2⟩
    ·rename_i hem
     split at h
     ·rename_i ag z zs kk hh zz i len c hr
      split at h
      ·rename_i e0 z0 cs rc lH
       split at h
       ·rename_i hb
        simp only [Bool.and_eq_true, Nat.blt_eq] at hb
        obtain ⟨b1, b2, b3, b4, b5, b6, b7⟩ := hb
        have b1 := Nat.eq_of_beq_eq_true b1
        have b2 := Nat.eq_of_beq_eq_true b2
        subst b1; subst b2
        rw [spine_eq] at h
        obtain ⟨g1, g2⟩ := putM_iff hO h
        exact ⟨⟨true, [], [(hh, .row e0 z0 cs rc)], [(hh, .row e0 z0 (splice cs (i * z0) (repA len z0 zs)) rc)], n, n, .tup [], [], [hh]⟩, rfl, rfl, Nat.le_refl _, g1,
         (triple_clear_row hT ho hx hk hr (Nat.eq_of_beq_eq_true b3) b4 b5 b6 (Nat.le_of_ble_eq_true b7)).y, sub_nil, sub_one lH, dom_self, by simp [lookN], fun k x hk => by simp [(look_one hk).1], g2⟩
       ·exact hO.stop h
      ·exact hO.stop h
     ·exact hO.stop h
   ·exact hO.stop h
  ·exact hO.stop h
 ·rename_i s d x ho
  split at h
  ·rename_i e hh i len c hs hd hx
   split at h
   ·rename_i e0 cs rc he lH
    split at h
    ·rename_i l hl hle
     obtain ⟨g1, g2⟩ := putM_iff hO h
     exact ⟨⟨true, [(hh, .row e0 1 cs rc)], [], [], n, n, .str (strOfNums l), [hh], []⟩, rfl, rfl, Nat.le_refl _, g1, (triple_b2s_row hT ho hx hs he hd hl (Nat.le_of_ble_eq_true hle)).y, sub_one lH, sub_nil, by simp [lookN], fun k x hk => by simp [(look_one hk).1], by simp [lookN], g2⟩
    ·exact hO.stop h
   ·exact hO.stop h
  ·rename_i e b hs hd hx
   split at h
   ·rename_i hrows he
    rw [spine_eq] at h
    obtain ⟨g1, g2⟩ := putN_iff hO h
    exact ⟨⟨true, [], [], [(n, .row e 1 (bytesA b) none)], n, n + 1, .sv n 1 0 b.size none, [], [n]⟩, rfl, rfl, Nat.le_succ _, g1, (triple_s2b_row hT ho hx hs hd he).y, sub_nil, sub_nil, by simp [lookN, lookC], by simp [lookN], fun k x hk => by simp [(look_one hk).1], g2⟩
   ·exact vcMem_stop hT hO h
  ·exact vcMem_stop hT hO h
 ·rename_i xs ts ho
  split at h
  ·rename_i x t hxs hts
   have hx1 := one_list hxs
   have ht1 := one_list hts
   subst hx1; subst ht1
   split at h
   ·rename_i kt et fl hh hm hx
    split at h
    ·rename_i L lL
     obtain ⟨g1, g2⟩ := putM_iff hO h
     exact ⟨⟨true, [(hh, .map L)], [], [], n, n, .int .i64 L.length, [hh], []⟩, rfl, rfl, Nat.le_refl _, g1, (triple_maplen hT ho hx hm).y, sub_one lL, sub_nil, by simp [lookN], fun k x hk => by simp [(look_one hk).1], by simp [lookN], g2⟩
    ·exact hO.stop h
   ·exact hO.stop h
  ·exact hO.stop h
 ·rename_i t x k ok ho
  split at h
  ·rename_i kt et fl kv hm hx hk
   split at h
   ·rename_i r hr
    split at h
    ·rename_i z hb hz
     obtain ⟨g1, g2⟩ := putM_iff hO h
     exact ⟨⟨true, [], [], [], n, n, _, [], []⟩, rfl, rfl, Nat.le_refl _, g1, (triple_lookup_nil hT ho hm hx hk hb hr hz).y, sub_nil, sub_nil, by simp [lookN], by simp [lookN], by simp [lookN], g2⟩
    ·exact hO.stop h
   ·exact hO.stop h
  ·exact vcMem_stop hT hO h
 ·exact vcMem_stop hT hO h
theorem vcRun0_stop {P : Program} {T : Tab} (hT : TabOK P T) {α : Type} {Z : Ans α} {tr : α → Prop} (hO : OpAns P Z tr) {o : Oper} {s : St} {K : St → α} (h : tr (vcRun0 Z T o s K)) : Stop P o s fun s => tr (K s) := by
 obtain ⟨fr, H, n, sz, df, log, bs⟩ := s
 have pure : ∀ {v : AV}, (aOpA T fr o.op).Holds v → tr (putM Z o v fr H n sz df log bs [] [] K) → Stop P o ⟨fr, H, n, sz, df, log, bs⟩ (fun s => tr (K s)) := by
  intro v hv hk
  obtain ⟨h1, h2⟩ := putM_iff hO hk
  exact ⟨⟨true, [], [], [], n, n, v, [], []⟩, rfl, rfl, Nat.le_refl _, h1, (triple_val (fun env a w hn => aOpA_ok hT hv hn)).y, sub_nil, sub_nil, by simp [lookN], by simp [lookN], by simp [lookN], h2⟩
 have other : tr (match aOpA T fr o.op with | .val v => putM Z o v fr H n sz df log bs [] [] K | .ob p dp v => Z.ob p dp <| putM Z o v fr H n sz df log bs [] [] K | .no => vcRow Z T o ⟨fr, H, n, sz, df, log, bs⟩ K) → Stop P o ⟨fr, H, n, sz, df, log, bs⟩ (fun s => tr (K s)) := by
  intro h
  split at h
  ·rename_i v hv; exact pure (v := v) (by rw [hv]; rfl) h
  ·rename_i p dp v hv; exact pure (v := v) (by rw [hv]; exact ⟨(hO.ob h).1, rfl⟩) (hO.ob h).2
  ·exact vcRow_stop hT hO h
 have mv : ∀ {x : Operand} {v : AV}, (o.op = .move x ∨ o.op = .assign x) → ev fr x = some v → tr (putF Z o v fr H n sz df log bs K) → Stop P o ⟨fr, H, n, sz, df, log, bs⟩ (fun s => tr (K s)) := by
  intro x v ho hx hk
  obtain ⟨h1, h2⟩ := putF_iff hO hk
  have hv : (aOpA T fr o.op).Holds v := by
   rcases ho with ho | ho <;> rw [ho] <;> simp [aOpA, aOp, optE, hx, E.Holds]
  exact ⟨⟨true, [], [], [], n, n, v, [], []⟩, rfl, rfl, Nat.le_refl _, h1, (triple_val (fun env a w hn => aOpA_ok hT hv hn)).y, sub_nil, sub_nil, by simp [lookN], by simp [lookN], by simp [lookN], h2⟩
 unfold vcRun0 at h
 simp only at h
 split at h
 ·rename_i x ho
  split at h
  ·rename_i v hx
   exact mv (.inl ho) hx h
  ·exact (hO.bad h).elim
 ·rename_i x ho
  split at h
  ·rename_i v hx
   exact mv (.inr ho) hx h
  ·exact (hO.bad h).elim
 ·rename_i e ho
  split at h
  ·rename_i ag k z kk hr
   obtain ⟨h1, h2⟩ := putN_iff hO h
   exact ⟨⟨true, [], [], [(n, .box e z)], n, n + 1, .ptr n 0, [], [n]⟩, rfl, rfl, Nat.le_succ _, h1, (triple_alloc hT ho hr).y, sub_nil, sub_nil, by simp [lookN, lookC], by simp [lookN], fun k x hk => by simp [(look_one hk).1], h2⟩
  ·exact (hO.bad h).elim
 ·rename_i e x ho
  split at h
  ·exact (hO.bad h).elim
  ·rename_i v hnr hv
   rw [spine_eq] at h
   obtain ⟨h1, h2⟩ := putN_iff hO h
   have hr : rawA v = false := by cases v <;> first | rfl | exact absurd rfl (hnr _)
   exact ⟨⟨true, [], [], [(n, .box e (cellsOf v))], n, n + 1, .ptr n 0, [], [n]⟩, rfl, rfl, Nat.le_succ _, h1, (triple_box ho hv hr).y, sub_nil, sub_nil, by simp [lookN, lookC], by simp [lookN], fun k x hk => by simp [(look_one hk).1], h2⟩
  ·exact (hO.bad h).elim
 ·rename_i t x ho
  split at h
  ·rename_i hh off ag k z kk hx hr
   split at h
   ·rename_i e cs hl
    split at h
    ·rename_i v hv
     obtain ⟨h1, h2⟩ := putM_iff hO h
     exact ⟨⟨true, [(hh, .box e cs)], [], [], n, n, v, [hh], []⟩, rfl, rfl, Nat.le_refl _, h1, (triple_load hT ho hx hr hv).y, sub_one hl, sub_nil, by simp [lookN], fun k x hk => by simp [(look_one hk).1], by simp [lookN], h2⟩
    ·exact (hO.bad h).elim
   ·exact (hO.bad h).elim
  ·rename_i hh zz i c ag k z kk hx hr
   split at h
   ·rename_i A hl
    split at h
    ·rename_i hag hfl
     simp only [Bool.and_eq_true] at hag
     obtain ⟨g1, g2, g3⟩ := hag
     have g2 := Nat.eq_of_beq_eq_true g2
     subst g2
     obtain ⟨h1, h2⟩ := putM_iff hO (hO.ob h).2
     refine ⟨⟨true, [(hh, .abs A)], [], [], n, n, readEl ag k (A.cell i) c, [hh], []⟩, rfl, rfl, Nat.le_refl _, h1, (triple_load_el hT ho hx hr ?_ hfl (hO.ob h).1 (Nat.le_of_ble_eq_true g3)).y, sub_one hl, sub_nil, by simp [lookN], fun k x hk => by simp [(look_one hk).1], by simp [lookN], h2⟩
     intro hf
     simp only at hf; subst hf
     exact Nat.eq_of_beq_eq_true (by simpa using g1)
    ·exact hO.stop h
   ·rename_i e z' cs rc hl
    split at h
    ·rename_i v hz hv
     have hz := Nat.eq_of_beq_eq_true hz
     subst hz
     obtain ⟨h1, h2⟩ := putM_iff hO h
     exact ⟨⟨true, [(hh, .row e zz cs rc)], [], [], n, n, v, [hh], []⟩, rfl, rfl, Nat.le_refl _, h1, (triple_load_row hT ho hx hr hv).y, sub_one hl, sub_nil, by simp [lookN], fun k x hk => by simp [(look_one hk).1], by simp [lookN], h2⟩
    ·exact hO.stop h
   ·exact (hO.bad h).elim
  ·exact (hO.bad h).elim
 ·rename_i t x y ho
  split at h
  ·rename_i hh off v ag k z kk hx hy hr
   split at h
   ·rename_i e cs hrw hl
    split at h
    ·rename_i hb
     simp only [Bool.and_eq_true] at hb
     rw [spine_eq] at h
     obtain ⟨h1, h2⟩ := putM_iff hO h
     exact ⟨⟨true, [], [(hh, .box e cs)], [(hh, .box e (splice cs off (cellsOf v)))], n, n, .raw undef, [], [hh]⟩, rfl, rfl, Nat.le_refl _, h1,
      (triple_store hT ho hx hy hr hrw hb.1 (Nat.eq_of_beq_eq_true hb.2.1) (Nat.le_of_ble_eq_true hb.2.2)).y, sub_nil, sub_one hl,
      fun k x hk => ⟨_, by have e := (look_one hk).1; subst e; exact look_self _ _⟩, by simp [lookN], fun k x hk => by simp [(look_one hk).1], h2⟩
    ·exact (hO.bad h).elim
   ·exact (hO.bad h).elim
  ·rename_i hh zz i c v ag k z kk hx hy hr
   split at h
   ·rename_i e z' cs rc hrw hl
    split at h
    ·rename_i hb
     simp only [Bool.and_eq_true] at hb
     have hz := Nat.eq_of_beq_eq_true hb.1
     subst hz
     rw [spine_eq] at h
     obtain ⟨h1, h2⟩ := putM_iff hO h
     exact ⟨⟨true, [], [(hh, .row e zz cs rc)], [(hh, .row e zz (splice cs (i * zz + c) (cellsOf v)) rc)], n, n, .raw undef, [], [hh]⟩, rfl, rfl, Nat.le_refl _, h1,
      (triple_store_row hT ho hx hy hr hrw hb.2.1 (Nat.eq_of_beq_eq_true hb.2.2.1) (Nat.le_of_ble_eq_true hb.2.2.2)).y, sub_nil, sub_one hl, dom_self, by simp [lookN], fun k x hk => by simp [(look_one hk).1], h2⟩
    ·exact hO.stop h
   ·exact hO.stop h
  ·exact hO.stop h
 ·rename_i c x y ho
  split at h
  ·rename_i t v1 v2 h1 h2 h3
   have key : ∀ {v : AV}, (t = true → v = v1) → (t = false → v = v2) → tr (putM Z o v fr H n sz df log bs [] [] K) → Stop P o ⟨fr, H, n, sz, df, log, bs⟩ (fun s => tr (K s)) := by
    intro v e1 e2 hk
    obtain ⟨g1, g2⟩ := putM_iff hO hk
    refine ⟨⟨true, [], [], [], n, n, v, [], []⟩, rfl, rfl, Nat.le_refl _, g1, (triple_val (fun env a w hn => ?_)).y, sub_nil, sub_nil, by simp [lookN], by simp [lookN], by simp [lookN], g2⟩
    have d1 := ev_den hn (by rw [ho]; simp [Op.operands]) h1
    have d2 := ev_den hn (by rw [ho]; simp [Op.operands]) h2
    have d3 := ev_den hn (by rw [ho]; simp [Op.operands]) h3
    simp only [Den] at d1
    cases t with
    | true => rw [e1 rfl]; exact ⟨a.eval x, by simp [execOp, ho, d1, asBool], d2⟩
    | false => rw [e2 rfl]; exact ⟨a.eval y, by simp [execOp, ho, d1, asBool], d3⟩
   cases t with
   | true => exact key (v := v1) (fun _ => rfl) (fun e => by cases e) ((hO.bc h).1 rfl)
   | false => exact key (v := v2) (fun e => by cases e) (fun _ => rfl) ((hO.bc h).2 rfl)
  ·exact (hO.bad h).elim
 ·rename_i f xs ts ho
  split at h
  ·rename_i g l m us h1 h2
   rw [spine_eq] at h
   exact hO.call h ⟨_, f, l, us, m, ho, rfl, h1, h2, rfl⟩
  ·rename_i hh us h1 h2
   exact hO.yld h ⟨_, f, ho, rfl, h1, h2⟩
  ·exact hO.stop h
 ·exact other h
theorem vcRun_stop {P : Program} {T : Tab} (hT : TabOK P T) {α : Type} {Z : Ans α} {tr : α → Prop} (hO : OpAns P Z tr) {o : Oper} {s : St} {K : St → α} (h : tr (vcRun Z T o s K)) : Stop P o s fun s => tr (K s) := by
 rcases hO.pre h with h | h
 ·exact h
 ·exact vcRun0_stop hT hO h
theorem vcOp_rec {P : Program} {T : Tab} (hT : TabOK P T) {α : Type} {Z : Ans α} {tr : α → Prop} (hO : OpAns P Z tr) {all : Array Oper} {o : Oper} {s : St} {K : St → α} (h : tr (vcOp Z T all o s K)) :
  ∃ r, RecOK P all s.sz o s.fr s.H r ∧ r.n = s.n ∧ tr (K (s.app o r)) := by
 have run : guardV all s.fr o = some true → Stop P o s (fun s => tr (K s)) → ∃ r, RecOK P all s.sz o s.fr s.H r ∧ r.n = s.n ∧ tr (K (s.app o r)) := by
  rintro hg ⟨r, h1, h2, h3, h4, h5, h6, h7, h8, h9, h10, h11⟩
  exact ⟨r, ⟨h4, by rw [hg, h1], h3, fun e => (by rw [h1] at e; cases e), fun _ => h5, fun _ => h6, fun _ => h7, h8, h9, h10⟩, h2, h11⟩
 have skip : guardV all s.fr o = some false → tr (skipK Z o s K) → ∃ r, RecOK P all s.sz o s.fr s.H r ∧ r.n = s.n ∧ tr (K (s.app o r)) := by
  intro hg hk
  obtain ⟨fr, H, n, sz, df, log, bs⟩ := s
  obtain ⟨h1, h2⟩ := putM_iff hO hk
  exact ⟨⟨false, [], [], [], n, n, .raw undef, [], []⟩, ⟨h1, hg, Nat.le_refl _, fun _ => ⟨rfl, rfl⟩, by simp, by simp, by simp, by simp [lookN], by simp [lookN], by simp [lookN]⟩, rfl, h2⟩
 unfold vcOp at h
 cases hg : o.guard with
 | none => rw [hg] at h; exact run (by simp [guardV, hg]) (vcRun_stop hT hO h)
 | some p =>
  obtain ⟨j, want⟩ := p
  rw [hg] at h
  simp only at h
  cases hd : (all[j]?).bind (·.dst) with
  | none => rw [hd] at h; exact skip (by unfold guardV; rw [hg]; simp only; rw [hd]) h
  | some d =>
   rw [hd] at h
   obtain ⟨fr, H, n, sz, df, log, bs⟩ := s
   simp only at h
   split at h
   ·rename_i b hl
    have hgv : guardV all fr o = some (b == want) := by unfold guardV; rw [hg]; simp only; rw [hd]; simp only; rw [hl]
    cases b with
    | true =>
     have h := (hO.bc h).1 rfl
     rw [setB_eq hl] at h
     cases want with
     | true => exact run hgv (vcRun_stop hT hO h)
     | false => exact skip hgv h
    | false =>
     have h := (hO.bc h).2 rfl
     rw [setB_eq hl] at h
     cases want with
     | true => exact skip hgv h
     | false => exact run hgv (vcRun_stop hT hO h)
   ·rename_i v hl
    split at h
    ·exact (hO.bad h).elim
    ·rename_i hv
     exact skip (by unfold guardV; rw [hg]; simp only; rw [hd]; simp only; rw [hl]; simp only; rw [hv]; rfl) h
   ·exact (hO.bad h).elim
theorem vcOps_run {P : Program} {T : Tab} (hT : TabOK P T) {α : Type} {Z : Ans α} {tr : α → Prop} (hO : OpAns P Z tr) {all : Array Oper} : ∀ {ops : List Oper} {s : St} {K : St → α}, tr (vcOps Z T all ops s K) → ∃ rs s', Run P all ops s rs s' ∧ tr (K s')
 | [], s, K, h => ⟨[], s, .nil, h⟩
 | o :: l, s, K, h => by
  obtain ⟨r, h1, h2, h3⟩ := vcOp_rec hT hO h
  obtain ⟨rs, s', h4, h5⟩ := vcOps_run hT hO h3
  exact ⟨r :: rs, s', .cons h1 h2 h4, h5⟩
inductive RunD (P : Program) (all : Array Oper) (dOK : Bool) : List Oper → St → St → Prop
 | nil {s : St} : RunD P all dOK [] s s
 | cons {o : Oper} {l : List Oper} {s s' : St} {r : Rec} (hr : RecOK P all s.sz o s.fr s.H r) (hn : r.n = s.n) (h : RunD P all dOK l (s.app o r) s') : RunD P all dOK (o :: l) s s'
 | dfr {o : Oper} {l : List Oper} {s s' : St} {c : Call} {f : Operand} {g : FuncId} {first us cap : List AV} (hd : dOK = true) (hg : guardV all s.fr o = some true) (ho : o.op = .defer c) (hc : c.callee = .value f)
   (hf : ev s.fr f = some (.fn (.func g) first cap)) (hu : evs s.fr c.args.toList = some us) (hdst : o.dst = none) (h : RunD P all dOK l { s with df := .call g (first ++ (us ++ cap)) :: s.df } s') : RunD P all dOK (o :: l) s s'
theorem RunD.facts {P : Program} {all : Array Oper} {dOK : Bool} {l : List Oper} {s s' : St} (h : RunD P all dOK l s s') : s'.b = s.b ∧ s'.sz = s.sz ∧ s.n ≤ s'.n := by
 induction h with
 | nil => exact ⟨rfl, rfl, Nat.le_refl _⟩
 | cons hr hn _ ih => exact ⟨ih.1, ih.2.1, by have := hr.nle; have := ih.2.2; simp only [St.app] at this; omega⟩
 | dfr _ _ _ _ _ _ _ _ ih => exact ih
theorem seqD_sound {P : Program} {ro : Option Nat} {all : Array Oper} {dOK : Bool} (hro : dOK = true → ro = none) {Q : Exit → Act → World → Prop} {X Y : Nat → Prop} {w0 : World} {ops : List Oper} {s s' : St} (h : RunD P all dOK ops s s') :
  ∀ {env : Env} {F : Foot} {a : Act} {w : World}, SatS env s F a w → Since X Y w0 s.H F w →
   (∀ env' F' a' w', Ext s.n env env' → SatS env' s' F' a' w' → Since X Y w0 s'.H F' w' → Q .normal a' w') → wpListIn (Wd ro) 0 P all Q ops a w := by
 induction h with
 | nil => intro env F a w hs hsi hq; exact hq env F a w (Ext.refl _ _) hs hsi
 | @cons o l s s' r hr hn h ih =>
  intro env F a w hs hsi hq
  refine wpListIn_step fun K hK => ?_
  refine step_ok hr hs.size hs.defers hs.val hs.heap hsi (fun _ _ => rfl) (fun _ _ _ => rfl) (fun h h1 _ => hs.fresh h (by omega)) ?_
  intro env' F' a' w' hle honly h1 h2 h3 h4 h5
  refine hK a' w' (ih (env := env') (F := F') ⟨h1, h2, h3, h4, ?_⟩ h5 (fun e F a w hle' => hq e F a w (Ext.trans ⟨hle, fun x hx => honly x (by omega)⟩ hle' (by have := hr.nle; simp only [St.app]; omega))))
  intro h hge
  simp only [St.app] at hge
  have := hr.nle
  rw [honly h (by omega)]; exact hs.fresh h (by omega)
 | @dfr o l s s' c f g first us cap hd hg ho hc hf hu hdst h ih =>
  intro env F a w hs hsi hq
  obtain rfl := hro hd
  refine wpListIn_step fun K hK => ?_
  have hneed : Need env o s.fr a := fun t _ v hv => hs.val t v hv
  have hw : Region.wanted o (yielded all a.tmps) = true := guard_ok (fun d _ v hl => hs.val d v hl) hg
  rw [if_pos hw]
  refine op_wd (.inr rfl) ?_
  have d1 := ev_den hneed (by rw [ho]; simp [Op.operands, Call.operands, hc]) hf
  have d2 := evs_den hneed (by intro x hx; rw [ho]; simp only [Op.operands, Call.operands]; exact Array.mem_append.2 (.inr (by simpa using hx))) hu
  simp only [Den] at d1
  obtain ⟨xs, ys, hx, d3, d4⟩ := d1
  unfold Oper.wp
  have hrun : (execOp a.eval o).run P w = .ok (.defer { target := .fn (.func g) ys, args := xs ++ c.args.map a.eval }) w := by
   simp [execOp, ho, resolve, hc, hx, Deferred.ofValue]
  rw [hrun]
  simp only [Oper.upon, hdst, Act.put]
  refine hK _ w (ih (env := env) (F := F) ⟨hs.size, ?_, hs.val, hs.heap, hs.fresh⟩ hsi hq)
  refine ⟨_, _, rfl, ⟨ys, _, rfl, ?_⟩, hs.defers⟩
  have := d3.append (d2.append d4)
  simpa using this
def vcOpsD {α : Type} (A : Ans α) (T : Tab) (all : Array Oper) (l : List Oper) : St → (St → α) → α := List.rec (motive := fun _ => St → (St → α) → α) (fun s K => K s) (fun o _ ih s K => match o.op with
  | .defer c => match A.dfr, o.guard, o.dst, s with
   | true, none, none, ⟨fr, H, n, sz, df, log, bs⟩ => match c.callee with
    | .value f => match ev fr f, evs fr c.args.toList with
     | some (.fn (.func g) first cap), some us => spine (first ++ (us ++ cap)) fun vs => ih ⟨fr, H, n, sz, .call g vs :: df, log, bs⟩ K
     | _, _ => A.bad
    | _ => A.bad
   | _, _, _, _ => A.bad
  | _ => vcOp A T all o s fun s => ih s K) l
theorem vcOpsD_cons {α : Type} (A : Ans α) (T : Tab) (all : Array Oper) (o : Oper) (l : List Oper) (s : St) (K : St → α) : vcOpsD A T all (o :: l) s K = (match o.op with
  | .defer c => match A.dfr, o.guard, o.dst, s with
   | true, none, none, ⟨fr, H, n, sz, df, log, bs⟩ => match c.callee with
    | .value f => match ev fr f, evs fr c.args.toList with
     | some (.fn (.func g) first cap), some us => spine (first ++ (us ++ cap)) fun vs => vcOpsD A T all l ⟨fr, H, n, sz, .call g vs :: df, log, bs⟩ K
     | _, _ => A.bad
    | _ => A.bad
   | _, _, _, _ => A.bad
  | _ => vcOp A T all o s fun s => vcOpsD A T all l s K) := rfl
theorem vcOpsD_run {P : Program} {T : Tab} (hT : TabOK P T) {α : Type} {Z : Ans α} {tr : α → Prop} (hO : OpAns P Z tr) {all : Array Oper} : ∀ {ops : List Oper} {s : St} {K : St → α}, tr (vcOpsD Z T all ops s K) → ∃ s', RunD P all Z.dfr ops s s' ∧ tr (K s')
 | [], s, K, h => ⟨s, .nil, h⟩
 | o :: l, s, K, h => by
  have plain : tr (vcOp Z T all o s fun s => vcOpsD Z T all l s K) → ∃ s', RunD P all Z.dfr (o :: l) s s' ∧ tr (K s') := by
   intro h
   obtain ⟨r, h1, h2, h3⟩ := vcOp_rec hT hO h
   obtain ⟨s', h4, h5⟩ := vcOpsD_run hT hO h3
   exact ⟨s', .cons h1 h2 h4, h5⟩
  rw [vcOpsD_cons] at h
  split at h
  ·rename_i c ho
   split at h
   ·rename_i fr H n sz df log bs hd hg hdst
    split at h
    ·rename_i f hc
     split at h
     ·rename_i g first cap us hf hu
      rw [spine_eq] at h
      obtain ⟨s', h4, h5⟩ := vcOpsD_run hT hO h
      exact ⟨s', .dfr hd (by simp [guardV, hg]) ho hc hf hu hdst h4, h5⟩
     ·exact (hO.bad h).elim
    ·exact (hO.bad h).elim
   ·exact (hO.bad h).elim
  ·exact plain h
end
end Go.SX
-- SQUEEZED
