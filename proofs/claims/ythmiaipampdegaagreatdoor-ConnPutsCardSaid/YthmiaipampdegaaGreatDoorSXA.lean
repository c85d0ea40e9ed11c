/- SX, part A: abstract values, resources, heaps, and the law of the frame. -/
import Derived.Test.YthmiaipampdegaaGreatDoorSXW
import Derived.Orders
import Derived.Laws.World
import Derived.Laws.Sem
import Derived.Laws.AppendOwn
namespace Go.SX
noncomputable section

/-- A value as the walk knows it: handles stand for places. -/
inductive AV where
  | bool (b : Bool)
  | int (k : IntKind) (n : Int)
  | str (s : ByteArray)
  | hd (h : Nat)
  | sl (h len : Nat)
  | ptr (h off : Nat)
  | el (h z i o : Nat)
  | slc (h off len cap : Nat)
  | sv (h z i len : Nat) (cap : Option Nat)
  | yld (h : Nat)
  | nilp | nils | nilm | nilf | nili
  | agg (l : List AV)
  | tup (l : List AV)
  | iface (t : TypeId) (v : AV)
  | fn (f : Fn) (first captured : List AV)
  | raw (v : Value)

abbrev Env := Nat → Option Value

/-- The value of one cell. -/
def leafV : Value → Prop
  | .agg _ => False
  | .tuple _ => False
  | _ => True

mutual
/-- What a value may be. -/
def Den (env : Env) : AV → Value → Prop
  | .bool b, x => x = .bool b
  | .int k n, x => x = .int k n
  | .str s, x => x = .string s
  | .hd h, x => env h = some x ∧ leafV x
  | .sl h len, x => env h = some x ∧ ∃ p cap, x = .slice p len cap ∧ (0 < len → ∃ b o, p = some ⟨b, o, none⟩)
  | .ptr h off, x => ∃ b, env h = some (.pointer (some ⟨b, 0, none⟩)) ∧ x = .pointer (some ⟨b, off, none⟩)
  | .el h z i o, x => ∃ b p len cap, env h = some (.slice (some ⟨b, p, none⟩) len cap) ∧ x = .pointer (some ⟨b, p + (i * z + o), none⟩)
  | .slc h off len cap, x => ∃ b, env h = some (.pointer (some ⟨b, 0, none⟩)) ∧ x = .slice (some ⟨b, off, none⟩) len cap
  | .sv h z i len cap, x => ∃ b o m C p c, env h = some (.slice (some ⟨b, o, none⟩) m C) ∧ x = .slice (some p) len c ∧ len ≤ c ∧ i + c ≤ C ∧ (cap = none → i + c = C) ∧ (∀ k, cap = some k → c = k) ∧ (0 < c → p = ⟨b, o + i * z, none⟩)
  | .yld h, x => ∃ l, env h = some (.pointer (some ⟨l, 0, none⟩)) ∧ x = .func (.yield l) #[] #[]
  | .nilp, x => x = .pointer none
  | .nils, x => x = .slice none 0 0
  | .nilm, x => x = .map none
  | .nilf, x => x = .nilFunc
  | .nili, x => x = .nilIface
  | .agg l, x => ∃ xs, x = .agg xs ∧ Dens env l xs.toList
  | .tup l, x => ∃ xs, x = .tuple xs ∧ Dens env l xs.toList
  | .iface t v, x => ∃ y, x = .iface t y ∧ Den env v y
  | .fn f l m, x => ∃ xs ys, x = .func f xs ys ∧ Dens env l xs.toList ∧ Dens env m ys.toList
  | .raw v, x => x = v
def Dens (env : Env) : List AV → List Value → Prop
  | [], xs => xs = []
  | v :: l, xs => ∃ y ys, xs = y :: ys ∧ Den env v y ∧ Dens env l ys
end

def Env.le (e e' : Env) : Prop := ∀ h v, e h = some v → e' h = some v

mutual
theorem Den.mono {e e' : Env} (hle : e.le e') : ∀ (v : AV) {x : Value}, Den e v x → Den e' v x
  | .bool _, _, h | .int _ _, _, h | .str _, _, h | .nilp, _, h | .nils, _, h | .nilm, _, h | .nilf, _, h | .nili, _, h | .raw _, _, h => by simpa only [Den] using h
  | .hd _, _, h => by simp only [Den] at h ⊢; exact ⟨hle _ _ h.1, h.2⟩
  | .sl _ _, _, h => by simp only [Den] at h ⊢; exact ⟨hle _ _ h.1, h.2⟩
  | .ptr _ _, _, h => by simp only [Den] at h ⊢; obtain ⟨b, h1, h2⟩ := h; exact ⟨b, hle _ _ h1, h2⟩
  | .slc _ _ _ _, _, h => by simp only [Den] at h ⊢; obtain ⟨b, h1, h2⟩ := h; exact ⟨b, hle _ _ h1, h2⟩
  | .el _ _ _ _, _, h => by simp only [Den] at h ⊢; obtain ⟨b, o, l, c, h1, h2⟩ := h; exact ⟨b, o, l, c, hle _ _ h1, h2⟩
  | .yld _, _, h => by simp only [Den] at h ⊢; obtain ⟨l, h1, h2⟩ := h; exact ⟨l, hle _ _ h1, h2⟩
  | .sv _ _ _ _ _, _, h => by simp only [Den] at h ⊢; obtain ⟨b, o, m, C, p, c, h1, h2⟩ := h; exact ⟨b, o, m, C, p, c, hle _ _ h1, h2⟩
  | .agg l, _, h => by simp only [Den] at h ⊢; obtain ⟨xs, h1, h2⟩ := h; exact ⟨xs, h1, Dens.mono hle l h2⟩
  | .tup l, _, h => by simp only [Den] at h ⊢; obtain ⟨xs, h1, h2⟩ := h; exact ⟨xs, h1, Dens.mono hle l h2⟩
  | .iface _ v, _, h => by simp only [Den] at h ⊢; obtain ⟨y, h1, h2⟩ := h; exact ⟨y, h1, Den.mono hle v h2⟩
  | .fn _ l m, _, h => by simp only [Den] at h ⊢; obtain ⟨xs, ys, h1, h2, h3⟩ := h; exact ⟨xs, ys, h1, Dens.mono hle l h2, Dens.mono hle m h3⟩
theorem Dens.mono {e e' : Env} (hle : e.le e') : ∀ (l : List AV) {xs : List Value}, Dens e l xs → Dens e' l xs
  | [], _, h => by simpa only [Dens] using h
  | v :: l, _, h => by simp only [Dens] at h ⊢; obtain ⟨y, ys, h1, h2, h3⟩ := h; exact ⟨y, ys, h1, Den.mono hle v h2, Dens.mono hle l h3⟩
end

theorem Env.le.refl (e : Env) : e.le e := fun _ _ h => h
theorem Env.le.trans {a b c : Env} (h : a.le b) (k : b.le c) : a.le c := fun _ _ x => k _ _ (h _ _ x)

/-- Whether two worlds have the same blocks wherever F says so. -/
def Agree (F : Nat → Prop) (w w' : World) : Prop := ∀ b, F b → w'.heap[b]? = w.heap[b]?

/-- A value of one cell that stands for itself. -/
def Clo (v : AV) (x : Value) : Prop := x.oneCell' = true ∧ ∀ env, Den env v x

/-- What may be read of a slice: its cells, element by element. -/
def ReadsAs (v : Value) (len esz : Nat) (cell : Nat → Nat → AV) (F : Nat → Prop) (w : World) : Prop :=
  ∃ p cap, v = .slice p len cap ∧ len ≤ cap ∧ ((len = 0 ∧ ∀ b, ¬ F b) ∨ ∃ b o arr e f, p = some ⟨b, o, none⟩ ∧ (∀ k, F k ↔ k = b) ∧ w.heap[b]? = some (.cells arr e f) ∧
    ∀ i c, i < len → c < esz → ∃ x, arr[o + (i * esz + c)]? = some x ∧ Clo (cell i c) x)

/-- A slice that is owned: it may be appended to. -/
def OwnSat (e len esz : Nat) (cell : Nat → Nat → AV) (v : Value) (F : Nat → Prop) (w : World) : Prop :=
  ∃ xs, w.ownsRow 0 e esz v len xs ∧ (∀ b, F b ↔ v.ownBlock = some b) ∧ ∀ i c, i < len → c < esz → ∃ x, xs[i * esz + c]? = some x ∧ Clo (cell i c) x

/-- A resource by its meaning. -/
structure ARes where
  ro : Bool
  tag : Option (Option Nat)
  flat : Bool
  len : Nat
  esz : Nat
  cell : Nat → Nat → AV
  sat : Value → (Nat → Prop) → World → Prop
  stable : ∀ {v F w w'}, sat v F w → Agree F w w' → sat v F w'
  bound : ∀ {v F w}, sat v F w → ∀ b, F b → b < w.heap.size
  own : ∀ e, tag = some (some e) → ro = false ∧ ∀ {v F w}, sat v F w ↔ OwnSat e len esz cell v F w
  reads : ∀ k, tag = some k → ∀ {v F w}, sat v F w → ReadsAs v len esz cell F w
  read : tag = some none → ro = true ∧ ∀ {v F w}, sat v F w ↔ ReadsAs v len esz cell F w
  cells : flat = true → ∀ {v F w}, sat v F w → ∀ i o, i < len → o < esz → ∃ b p n cap, v = .slice (some ⟨b, p, none⟩) n cap ∧ ∃ x, w.cell? ⟨b, p + (i * esz + o), none⟩ = some x ∧ ∀ env, Den env (cell i o) x

/-- A map's entries. -/
def DenM (env : Env) : List (AV × AV) → List MapEntry → Prop
  | [], es => es = []
  | (k, v) :: l, es => ∃ e t, es = e :: t ∧ Den env k e.key ∧ Den env v e.val ∧ DenM env l t

theorem DenM.mono {e e' : Env} (hle : e.le e') : ∀ {l : List (AV × AV)} {es : List MapEntry}, DenM e l es → DenM e' l es
  | [], _, h => h
  | (k, v) :: _, _, ⟨e, t, h1, h2, h3, h4⟩ => ⟨e, t, h1, Den.mono hle k h2, Den.mono hle v h3, DenM.mono hle h4⟩

/-- The entry at which an iterator stands. -/
def curOf (xs : Array MapEntry) (seen : Array Nat) : List MapEntry :=
  match seen.back? with
  | some st => (xs.find? fun e => e.born == st).toList
  | none => []

/-- Each entry was born at a time of its own, before now. -/
structure Born (es : List MapEntry) (clock : Nat) : Prop where
  lt : ∀ e ∈ es, e.born < clock
  ne : es.Pairwise fun a b => a.born ≠ b.born

/-- A range over a function, in its rounds: the frame is the one in which it stands. -/
structure LoopR where
  fr : List (Nat × AV)
  sz : Nat
  ps : Array Tmp
  as : Code
  body : Code
  st : LoopState
  pend : Option Code
  dh : Nat

/-- Look into a list of pairs. -/
def look {α : Type} (l : List (Nat × α)) (n : Nat) : Option α := List.rec (motive := fun _ => Option α) none (fun p _ ih => Bool.rec ih (some p.2) (Nat.beq p.1 n)) l
theorem lookN {α : Type} (n : Nat) : look ([] : List (Nat × α)) n = none := rfl
theorem lookC {α : Type} (k : Nat) (v : α) (l : List (Nat × α)) (n : Nat) : look ((k, v) :: l) n = (match Nat.beq k n with
    | true => some v
    | false => look l n) := by
  show (Bool.rec (look l n) (some v) (Nat.beq k n) : Option α) = _
  cases Nat.beq k n <;> rfl

/-- Lists, by the recursor: the kernel goes through it faster than through a recursive definition. -/
def appR {β : Type} (l m : List β) : List β := List.rec (motive := fun _ => List β) m (fun x _ ih => x :: ih) l
@[simp] theorem appR_eq {β : Type} (l m : List β) : appR l m = l ++ m := by
  induction l with
  | nil => rfl
  | cons x l ih => show x :: appR l m = _; rw [ih]; rfl

def takeR {β : Type} (n : Nat) (l : List β) : List β := List.rec (motive := fun _ => Nat → List β) (fun _ => []) (fun x _ ih n => Nat.rec [] (fun k _ => x :: ih k) n) l n
@[simp] theorem takeR_eq {β : Type} (n : Nat) (l : List β) : takeR n l = l.take n := by
  induction l generalizing n with
  | nil => cases n <;> rfl
  | cons x l ih =>
    cases n with
    | zero => rfl
    | succ n => show x :: takeR n l = _; rw [ih]; rfl

def dropR {β : Type} (n : Nat) (l : List β) : List β := List.rec (motive := fun _ => Nat → List β) (fun _ => []) (fun x l ih n => Nat.rec (x :: l) (fun k _ => ih k) n) l n
@[simp] theorem dropR_eq {β : Type} (n : Nat) (l : List β) : dropR n l = l.drop n := by
  induction l generalizing n with
  | nil => cases n <;> rfl
  | cons x l ih =>
    cases n with
    | zero => rfl
    | succ n => show dropR n l = _; rw [ih]; rfl

def lenR {β : Type} (l : List β) : Nat := List.rec (motive := fun _ => Nat → Nat) (fun k => k) (fun _ _ ih k => ih (Nat.add k 1)) l 0
@[simp] theorem lenR_eq {β : Type} (l : List β) : lenR l = l.length := by
  have key : ∀ (l : List β) (k : Nat), (List.rec (motive := fun _ => Nat → Nat) (fun k => k) (fun _ _ ih k => ih (Nat.add k 1)) l k : Nat) = k + l.length := by
    intro l
    induction l with
    | nil => intro k; rfl
    | cons x l ih => intro k; show (List.rec (motive := fun _ => Nat → Nat) (fun k => k) (fun _ _ ih k => ih (Nat.add k 1)) l (Nat.add k 1) : Nat) = _; rw [ih]; simp only [List.length_cons, Nat.add_eq]; omega
  exact (key l 0).trans (Nat.zero_add _)

def allR {β : Type} (l : List β) (p : β → Bool) : Bool := List.rec (motive := fun _ => Bool) true (fun x _ ih => Bool.rec false ih (p x)) l
@[simp] theorem allR_eq {β : Type} (l : List β) (p : β → Bool) : allR l p = l.all p := by
  induction l with
  | nil => rfl
  | cons x l ih =>
    show (Bool.rec false (allR l p) (p x) : Bool) = _
    rw [ih, List.all_cons]
    cases p x <;> rfl

def filterR {β : Type} (l : List β) (p : β → Bool) : List β := List.rec (motive := fun _ => List β) [] (fun x _ ih => Bool.rec ih (x :: ih) (p x)) l
@[simp] theorem filterR_eq {β : Type} (l : List β) (p : β → Bool) : filterR l p = l.filter p := by
  induction l with
  | nil => rfl
  | cons x l ih =>
    show (Bool.rec (filterR l p) (x :: filterR l p) (p x) : List β) = _
    rw [ih, List.filter_cons]
    cases p x <;> rfl

structure LoopSat (env : Env) (L : LoopR) (r : Loop) : Prop where
  sz : r.tmps.size = L.sz
  ps : r.params = L.ps
  as : r.assign = L.as
  body : r.body = L.body
  st : r.state = L.st
  pend : r.pending = L.pend
  dh : env L.dh = some (.pointer (some ⟨r.defers, 0, none⟩))
  fr : ∀ t v, look L.fr t = some v → ∃ x, r.tmps[t]? = some x ∧ Den env v x
  stat : staticC L.as = true ∧ staticC L.body = true

theorem LoopSat.mono {e e' : Env} (hle : e.le e') {L : LoopR} {r : Loop} (h : LoopSat e L r) : LoopSat e' L r :=
  ⟨h.sz, h.ps, h.as, h.body, h.st, h.pend, hle _ _ h.dh, fun t v hv => let ⟨x, h1, h2⟩ := h.fr t v hv; ⟨x, h1, Den.mono hle v h2⟩, h.stat⟩

inductive Res where
  | dblk
  | loop (L : LoopR)
  | gone
  | box (elem : TypeId) (cells : List AV)
  | abs (A : ARes)
  | row (e z : Nat) (cells : List AV) (cap : Option Nat)
  | map (es : List (AV × AV))
  | rmap (es todo cur : List (AV × AV)) (it : Nat)
  | iter (m : Nat)

def Res.excl : Res → Bool
  | .dblk => true
  | .loop _ => true
  | .gone => true
  | .box .. => true
  | .abs A => !A.ro
  | .row .. => true
  | .map _ => true
  | .rmap .. => true
  | .iter _ => true

def Res.sat (env : Env) (v : Value) (F : Nat → Prop) (w : World) : Res → Prop
  | .dblk => ∃ b, v = .pointer (some ⟨b, 0, none⟩) ∧ (∀ k, F k ↔ k = b) ∧ w.heap[b]? = some (.deferred (some []))
  | .loop L => ∃ b r, v = .pointer (some ⟨b, 0, none⟩) ∧ (∀ k, F k ↔ k = b) ∧ w.heap[b]? = some (.loop r) ∧ LoopSat env L r
  | .gone => ∀ b, ¬ F b
  | .box e cs => ∃ b xs, v = .pointer (some ⟨b, 0, none⟩) ∧ (∀ k, F k ↔ k = b) ∧ w.heap[b]? = some (.cells xs e (0, 0)) ∧ Dens env cs xs.toList
  | .abs A => A.sat v F w
  | .row e z cs cap => ∃ b o m C xs lo hi ys tl, v = .slice (some ⟨b, o, none⟩) m C ∧ (∀ k, F k ↔ k = b) ∧ w.heap[b]? = some (.cells xs e (lo, hi)) ∧ ((z = 1 ∧ xs.size ≤ lo) ∨ hi ≤ lo) ∧ xs.size = o + C * z ∧
      xs.toList.drop o = ys ++ tl ∧ Dens env cs ys ∧ (∀ k, cap = some k → C = k)
  | .map es => ∃ b xs clock, v = .map (some b) ∧ (∀ k, F k ↔ k = b) ∧ w.heap[b]? = some (.map xs clock) ∧ DenM env es xs.toList ∧ Born xs.toList clock
  | .rmap es todo cur it => ∃ b r xs clock since seen, v = .map (some b) ∧ r ≠ b ∧ env it = some (.pointer (some ⟨r, 0, none⟩)) ∧ (∀ k, F k ↔ k = b ∨ k = r) ∧ w.heap[b]? = some (.map xs clock) ∧
      w.heap[r]? = some (.mapIter (some b) since seen clock) ∧ DenM env es xs.toList ∧ Born xs.toList clock ∧ (since ≤ clock ∧ ∀ e ∈ xs.toList, e.born < since) ∧ DenM env todo (xs.toList.filter fun e => !seen.contains e.born) ∧ DenM env cur (curOf xs seen)
  | .iter _ => ∀ b, ¬ F b

theorem Res.sat_stable {env env' : Env} {v : Value} {F : Nat → Prop} {w w' : World} (hle : env.le env') (hag : Agree F w w') : ∀ {r : Res}, r.sat env v F w → r.sat env' v F w'
  | .dblk, ⟨b, h1, h2, h3⟩ => ⟨b, h1, h2, by rw [hag b ((h2 b).2 rfl)]; exact h3⟩
  | .loop L, ⟨b, r, h1, h2, h3, h4⟩ => ⟨b, r, h1, h2, by rw [hag b ((h2 b).2 rfl)]; exact h3, h4.mono hle⟩
  | .gone, h => h
  | .box e cs, ⟨b, xs, h1, h2, h3, h4⟩ => ⟨b, xs, h1, h2, by rw [hag b ((h2 b).2 rfl)]; exact h3, Dens.mono hle cs h4⟩
  | .abs A, h => A.stable h hag
  | .row e z cs cap, ⟨b, o, m, C, xs, lo, hi, ys, tl, h1, h2, h3, h4, h5, h6, h7, h8⟩ => ⟨b, o, m, C, xs, lo, hi, ys, tl, h1, h2, by rw [hag b ((h2 b).2 rfl)]; exact h3, h4, h5, h6, Dens.mono hle cs h7, h8⟩
  | .map es, ⟨b, xs, c, h1, h2, h3, h4, h5⟩ => ⟨b, xs, c, h1, h2, by rw [hag b ((h2 b).2 rfl)]; exact h3, h4.mono hle, h5⟩
  | .rmap es todo cur it, ⟨b, r, xs, c, s, n, h1, h0, h2, h3, h4, h5, h6, h7, h8, h9, h10⟩ => ⟨b, r, xs, c, s, n, h1, h0, hle _ _ h2, h3, by rw [hag b ((h3 b).2 (.inl rfl))]; exact h4, by rw [hag r ((h3 r).2 (.inr rfl))]; exact h5, h6.mono hle, h7, h8, h9.mono hle, h10.mono hle⟩
  | .iter _, h => h

theorem getElem?_lt {α : Type} {l : Array α} {i : Nat} {x : α} (h : l[i]? = some x) : i < l.size := by
  rcases Nat.lt_or_ge i l.size with h' | h'
  · exact h'
  · simp [Array.getElem?_eq_none h'] at h

theorem Res.sat_bound {env : Env} {v : Value} {F : Nat → Prop} {w : World} : ∀ {r : Res}, r.sat env v F w → ∀ b, F b → b < w.heap.size
  | .dblk, ⟨b, _, h2, h3⟩, k, hk => by rw [(h2 k).1 hk]; exact getElem?_lt h3
  | .loop _, ⟨b, _, _, h2, h3, _⟩, k, hk => by rw [(h2 k).1 hk]; exact getElem?_lt h3
  | .gone, h, b, hb => (h b hb).elim
  | .box _ _, ⟨b, _, _, h2, h3, _⟩, k, hk => by rw [(h2 k).1 hk]; exact getElem?_lt h3
  | .abs A, h, b, hb => A.bound h b hb
  | .row .., ⟨b, _, _, _, _, _, _, _, _, _, h2, h3, _⟩, k, hk => by rw [(h2 k).1 hk]; exact getElem?_lt h3
  | .map _, ⟨b, _, _, _, h2, h3, _⟩, k, hk => by rw [(h2 k).1 hk]; exact getElem?_lt h3
  | .rmap .., ⟨b, r, _, _, _, _, _, _, _, h3, h4, h5, _⟩, k, hk => (h3 k).1 hk |>.elim (fun e => e ▸ getElem?_lt h4) (fun e => e ▸ getElem?_lt h5)
  | .iter _, h, b, hb => (h b hb).elim

theorem look_cons {α : Type} (k : Nat) (v : α) (l : List (Nat × α)) (n : Nat) : look ((k, v) :: l) n = if k = n then some v else look l n := by
  by_cases h : k = n
  · subst h; simp [lookN, lookC, Nat.beq_refl]
  · have : Nat.beq k n = false := by
      cases hb : Nat.beq k n with
      | false => rfl
      | true => exact absurd (Nat.eq_of_beq_eq_true hb) h
    simp [lookN, lookC, this, h]

theorem look_append {α : Type} (l m : List (Nat × α)) (n : Nat) : look (l ++ m) n = (look l n).or (look m n) := by
  induction l with
  | nil => simp [lookN, lookC]
  | cons p l ih =>
    obtain ⟨k, v⟩ := p
    rw [List.cons_append, look_cons, look_cons, ih]
    split <;> simp

theorem look_ext {α : Type} {l m : List (Nat × α)} (h : l = m) (n : Nat) : look l n = look m n := by rw [h]

abbrev Heap := List (Nat × Res)
abbrev Foot := Nat → Nat → Prop

structure SatH (env : Env) (H : Heap) (F : Foot) (w : World) : Prop where
  sat : ∀ {h r}, look H h = some r → ∃ v, env h = some v ∧ r.sat env v (F h) w
  apart : ∀ {h r h' r'}, look H h = some r → look H h' = some r' → h ≠ h' → r.excl = true → ∀ b, F h b → ¬ F h' b

theorem SatH.bound {env : Env} {H : Heap} {F : Foot} {w : World} (s : SatH env H F w) {h : Nat} {r : Res} (hl : look H h = some r) {b : Nat} (hb : F h b) : b < w.heap.size :=
  let ⟨_, _, hs⟩ := s.sat hl; Res.sat_bound hs b hb

theorem SatH.congr {env : Env} {H H' : Heap} {F : Foot} {w : World} (s : SatH env H F w) (hl : ∀ h, look H' h = look H h) : SatH env H' F w :=
  ⟨fun h => s.sat ((hl _).symm.trans h), fun h k => s.apart ((hl _).symm.trans h) ((hl _).symm.trans k)⟩

theorem SatH.part {env : Env} {H pre : Heap} {F : Foot} {w : World} (s : SatH env H F w) (hl : ∀ h r, look pre h = some r → look H h = some r) : SatH env pre F w :=
  ⟨fun h => s.sat (hl _ _ h), fun h k => s.apart (hl _ _ h) (hl _ _ k)⟩

theorem SatH.drew {env : Env} {H : Heap} {F : Foot} {w : World} (s : SatH env H F w) : SatH env H F { w with drawn := w.drawn + 1 } :=
  ⟨fun h => let ⟨v, hv, hs⟩ := s.sat h; ⟨v, hv, Res.sat_stable (w := w) (w' := { w with drawn := w.drawn + 1 }) (Env.le.refl _) (fun _ _ => rfl) hs⟩, s.apart⟩

/-- The blocks that are a heap's own. -/
def Owned (H : Heap) (F : Foot) (b : Nat) : Prop := ∃ h r, look H h = some r ∧ r.excl = true ∧ F h b

/-- From w to w' nothing has turned but X's blocks, and what is new. -/
structure FrameW (X : Nat → Prop) (w w' : World) : Prop where
  os : w'.os = w.os
  tape : w'.tape = w.tape
  output : w'.output = w.output
  size : w.heap.size ≤ w'.heap.size
  block : ∀ b, b < w.heap.size → ¬ X b → w'.heap[b]? = w.heap[b]?

theorem FrameW.refl (X : Nat → Prop) (w : World) : FrameW X w w := ⟨rfl, rfl, rfl, Nat.le_refl _, fun _ _ _ => rfl⟩

/-- Two steps; the second may touch what the first may, and what is new since the beginning. -/
theorem FrameW.trans {X Y : Nat → Prop} {a b c : World} (h : FrameW X a b) (k : FrameW Y b c) (hy : ∀ n, Y n → X n ∨ a.heap.size ≤ n) : FrameW X a c :=
  ⟨k.os.trans h.os, k.tape.trans h.tape, k.output.trans h.output, Nat.le_trans h.size k.size, fun n hn hx => by
    rw [k.block n (Nat.lt_of_lt_of_le hn h.size) (fun hyn => (hy n hyn).elim hx (by omega)), h.block n hn hx]⟩

theorem FrameW.mono {X Y : Nat → Prop} {a b : World} (h : FrameW X a b) (hy : ∀ n, X n → Y n) : FrameW Y a b :=
  ⟨h.os, h.tape, h.output, h.size, fun n hn hx => h.block n hn (fun k => hx (hy n k))⟩

/-- What has become of a part of the heap: 'pre' is now 'post', the rest was at most read. -/
structure Turn (n n' : Nat) (R pre post : Heap) (env : Env) (F : Foot) (w : World) (env' : Env) (F' : Foot) (w' : World) : Prop where
  le : env.le env'
  only : ∀ h, ¬ (n ≤ h ∧ h < n') → env' h = env h
  sat : SatH env' post F' w'
  owns : ∀ {h r b}, look post h = some r → F' h b → (∃ h0 r0, look pre h0 = some r0 ∧ F h0 b ∧ (r.excl = true → r0.excl = true)) ∨
    (∃ h0 r0, look R h0 = some r0 ∧ F h0 b ∧ r0.excl = false ∧ r.excl = false) ∨ w.heap.size ≤ b
  frame : FrameW (Owned pre F) w w'

/-- 'pre' lies in H. -/
def Sub (pre H : Heap) : Prop := ∀ h r, look pre h = some r → look H h = some r

theorem Turn.whole {n n' : Nat} {R pre post H : Heap} {env env' : Env} {F F' : Foot} {w w' : World} (t : Turn n n' R pre post env F w env' F' w')
    (s : SatH env H F w) (hR : Sub R H) (hp : Sub pre H) (hdom : ∀ h r, look pre h = some r → ∃ r', look post h = some r') :
    ∃ F'', SatH env' (post ++ H) F'' w' ∧ (∀ {h r b}, look (post ++ H) h = some r → F'' h b → (∃ h0 r0, look H h0 = some r0 ∧ F h0 b ∧ (r.excl = true → r0.excl = true)) ∨ w.heap.size ≤ b) := by
  classical
  let F'' : Foot := fun h b => if (look post h).isSome then F' h b else F h b
  have f1 : ∀ {h r}, look post h = some r → F'' h = F' h := by intro h r hl; funext b; simp [F'', hl]
  have f2 : ∀ {h}, look post h = none → F'' h = F h := by intro h hl; funext b; simp [F'', hl]
  -- a resource of H that is not among post's is none of pre's, and nothing of it has turned
  have old : ∀ {h r}, look post h = none → look H h = some r → Agree (F h) w w' := by
    intro h r hn hl b hb
    refine t.frame.block b (s.bound hl hb) ?_
    rintro ⟨h0, r0, hl0, he0, hb0⟩
    have hne : h0 ≠ h := by
      rintro rfl
      obtain ⟨r', hr'⟩ := hdom _ _ hl0
      rw [hn] at hr'; cases hr'
    exact s.apart (hp _ _ hl0) hl hne he0 b hb0 hb
  have spl : ∀ {h r}, look (post ++ H) h = some r → (look post h = some r) ∨ (look post h = none ∧ look H h = some r) := by
    intro h r hl
    rw [look_append] at hl
    cases hq : look post h with
    | some x => rw [hq] at hl; simp at hl; exact .inl (by rw [hl])
    | none => rw [hq] at hl; simp at hl; exact .inr ⟨rfl, hl⟩
  refine ⟨F'', ⟨?_, ?_⟩, ?_⟩
  · intro h r hl
    rcases spl hl with hq | ⟨hn, hl⟩
    · obtain ⟨v, hv, hs⟩ := t.sat.sat hq
      exact ⟨v, hv, by rw [f1 hq]; exact hs⟩
    · obtain ⟨v, hv, hs⟩ := s.sat hl
      exact ⟨v, t.le _ _ hv, by rw [f2 hn]; exact Res.sat_stable t.le (old hn hl) hs⟩
  · intro h r h' r' hl hl' hne he b hb hb'
    rcases spl hl with hq | ⟨hn, hl⟩ <;> rcases spl hl' with hq' | ⟨hn', hl'⟩
    · rw [f1 hq] at hb; rw [f1 hq'] at hb'
      exact t.sat.apart hq hq' hne he b hb hb'
    · rw [f1 hq] at hb; rw [f2 hn'] at hb'
      rcases t.owns hq hb with ⟨h0, r0, hl0, hb0, hx⟩ | ⟨_, _, _, _, _, hx⟩ | hge
      · have hne' : h0 ≠ h' := by
          rintro rfl
          obtain ⟨r2, hr2⟩ := hdom _ _ hl0
          rw [hn'] at hr2; cases hr2
        exact s.apart (hp _ _ hl0) hl' hne' (hx he) b hb0 hb'
      · rw [he] at hx; cases hx
      · exact absurd (s.bound hl' hb') (by omega)
    · rw [f2 hn] at hb; rw [f1 hq'] at hb'
      rcases t.owns hq' hb' with ⟨h0, r0, hl0, hb0, _⟩ | ⟨h0, r0, hl0, hb0, h0n, _⟩ | hge
      · have hne' : h ≠ h0 := by
          rintro rfl
          obtain ⟨r2, hr2⟩ := hdom _ _ hl0
          rw [hn] at hr2; cases hr2
        exact s.apart hl (hp _ _ hl0) hne' he b hb hb0
      · have hne' : h ≠ h0 := by
          rintro rfl
          rw [hR _ _ hl0] at hl; cases hl; rw [he] at h0n; cases h0n
        exact s.apart hl (hR _ _ hl0) hne' he b hb hb0
      · exact absurd (s.bound hl hb) (by omega)
    · rw [f2 hn] at hb; rw [f2 hn'] at hb'
      exact s.apart hl hl' hne he b hb hb'
  · intro h r b hl hb
    rcases spl hl with hq | ⟨hn, hl⟩
    · rw [f1 hq] at hb
      rcases t.owns hq hb with ⟨h0, r0, hl0, hb0, hx⟩ | ⟨h0, r0, hl0, hb0, _, hx⟩ | hge
      · exact .inl ⟨h0, r0, hp _ _ hl0, hb0, hx⟩
      · exact .inl ⟨h0, r0, hR _ _ hl0, hb0, fun he => by rw [he] at hx; cases hx⟩
      · exact .inr hge
    · rw [f2 hn] at hb
      exact .inl ⟨h, r, hl, hb, id⟩

end
end Go.SX
