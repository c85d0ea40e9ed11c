/- SX, part EA: equality of values and heaps that a kernel computes; a call that leaves some of what it was handed as it was. -/
import Derived.Test.YtglkoaajgekonaaGreatDoorSXY
namespace Go.SX
noncomputable section
def eqList {α : Type} (f : α → α → Bool) : List α → List α → Bool
 | [], [] => true
 | a :: l, b :: m => f a b && eqList f l m
 | _, _ => false
theorem eqList_ok {α : Type} {f : α → α → Bool} (h : ∀ a b, f a b = true → a = b) : ∀ l m, eqList f l m = true → l = m
 | [], [], _ => rfl
 | a :: l, b :: m, e => by
  simp only [eqList, Bool.and_eq_true] at e
  rw [h a b e.1, eqList_ok h l m e.2]
 | [], _ :: _, e => by cases e
 | _ :: _, [], e => by cases e
def eqO {α : Type} (f : α → α → Bool) : Option α → Option α → Bool
 | none, none => true
 | some a, some b => f a b
 | _, _ => false
theorem eqO_ok {α : Type} {f : α → α → Bool} (h : ∀ a b, f a b = true → a = b) : ∀ l m, eqO f l m = true → l = m
 | none, none, _ => rfl
 | some a, some b, e => by rw [h a b e]
 | none, some _, e => by cases e
 | some _, none, e => by cases e
def eqS (a b : ByteArray) : Bool := eqList (fun x y : UInt8 => Nat.beq x.toNat y.toNat) a.data.toList b.data.toList
theorem eqS_ok (a b : ByteArray) (h : eqS a b = true) : a = b := by
 have := eqList_ok (f := fun x y : UInt8 => Nat.beq x.toNat y.toNat) (fun x y h => UInt8.toNat_inj.1 (Nat.eq_of_beq_eq_true h)) _ _ h
 cases a with | mk a => cases b with | mk b =>
 simp only at this
 rw [Array.toList_inj.1 this]
def eqA : Nat → AV → AV → Bool
 | 0, _, _ => false
 | k + 1, a, b => match a, b with
  | .bool x, .bool y => Bool.rec (!y) y x
  | .int x i, .int y j => decide (x = y) && eqI i j
  | .str x, .str y => eqS x y
  | .hd x, .hd y => Nat.beq x y
  | .ptr x o, .ptr y p => Nat.beq x y && Nat.beq o p
  | .sv h z i l c, .sv h' z' i' l' c' => Nat.beq h h' && (Nat.beq z z' && (Nat.beq i i' && (Nat.beq l l' && eqO Nat.beq c c')))
  | .nilp, .nilp => true
  | .nils, .nils => true
  | .nilm, .nilm => true
  | .nilf, .nilf => true
  | .nili, .nili => true
  | .agg l, .agg m => eqList (eqA k) l m
  | .iface t x, .iface u y => Nat.beq t u && eqA k x y
  | _, _ => false
theorem eqA_ok : ∀ k a b, eqA k a b = true → a = b
 | 0, _, _, h => by cases h
 | k + 1, a, b, h => by
  unfold eqA at h
  split at h
  ·rename_i x y; cases x <;> cases y <;> first | rfl | cases h
  ·simp only [Bool.and_eq_true, decide_eq_true_eq] at h
   rw [h.1]; have := h.2; rw [eqI_eq] at this; rw [of_decide_eq_true this]
  ·rw [eqS_ok _ _ h]
  ·rw [Nat.eq_of_beq_eq_true h]
  ·simp only [Bool.and_eq_true] at h
   rw [Nat.eq_of_beq_eq_true h.1, Nat.eq_of_beq_eq_true h.2]
  ·simp only [Bool.and_eq_true] at h
   obtain ⟨h1, h2, h3, h4, h5⟩ := h
   rw [Nat.eq_of_beq_eq_true h1, Nat.eq_of_beq_eq_true h2, Nat.eq_of_beq_eq_true h3, Nat.eq_of_beq_eq_true h4, eqO_ok (fun _ _ => Nat.eq_of_beq_eq_true) _ _ h5]
  any_goals rfl
  ·rw [eqList_ok (eqA_ok k) _ _ h]
  ·simp only [Bool.and_eq_true] at h
   rw [Nat.eq_of_beq_eq_true h.1, eqA_ok k _ _ h.2]
  ·cases h
def eqP (k : Nat) (p q : AV × AV) : Bool := eqA k p.1 q.1 && eqA k p.2 q.2
def eqR (k : Nat) : Res → Res → Bool
 | .box e c, .box e' c' => Nat.beq e e' && eqList (eqA k) c c'
 | .row e z c p, .row e' z' c' p' => Nat.beq e e' && (Nat.beq z z' && (eqList (eqA k) c c' && eqO Nat.beq p p'))
 | .map l, .map m => eqList (eqP k) l m
 | _, _ => false
def eqE (k : Nat) (p q : Nat × Res) : Bool := Nat.beq p.1 q.1 && eqR k p.2 q.2
def eqH (k : Nat) (l m : Heap) : Bool := eqList (eqE k) l m
def detA : Nat → AV → Bool
 | 0, _ => false
 | k + 1, v => match v with
  | .bool _ => true
  | .int _ _ => true
  | .str _ => true
  | .hd _ => true
  | .ptr _ _ => true
  | .nilp => true
  | .nils => true
  | .nilm => true
  | .nilf => true
  | .nili => true
  | .sv _ _ _ len _ => Nat.blt 0 len
  | .agg l => l.all (detA k)
  | .iface _ x => detA k x
  | _ => false
theorem detL_of {f : AV → Bool} (h : ∀ v, f v = true → ∀ (env : Env) (x y : Value), Den env v x → Den env v y → x = y) : ∀ (l : List AV), l.all f = true → ∀ (env : Env) (xs ys : List Value), Dens env l xs → Dens env l ys → xs = ys
 | [], _, _, xs, ys, h1, h2 => by simp only [Dens] at h1 h2; rw [h1, h2]
 | v :: l, ha, env, xs, ys, h1, h2 => by
  simp only [List.all_cons, Bool.and_eq_true] at ha
  simp only [Dens] at h1 h2
  obtain ⟨x, xs', rfl, a1, a2⟩ := h1
  obtain ⟨y, ys', rfl, b1, b2⟩ := h2
  rw [h v ha.1 env x y a1 b1, detL_of h l ha.2 env xs' ys' a2 b2]
theorem detA_ok : ∀ (k : Nat) (v : AV), detA k v = true → ∀ (env : Env) (x y : Value), Den env v x → Den env v y → x = y
 | 0, _, h, _, _, _, _, _ => by cases h
 | k + 1, v, h, env, x, y, h1, h2 => by
  unfold detA at h
  split at h
  ·simp only [Den] at h1 h2; rw [h1, h2]
  ·simp only [Den] at h1 h2; rw [h1, h2]
  ·simp only [Den] at h1 h2; rw [h1, h2]
  ·simp only [Den] at h1 h2
   have := h1.1.symm.trans h2.1
   exact Option.some.inj this
  ·simp only [Den] at h1 h2
   obtain ⟨b, e1, rfl⟩ := h1
   obtain ⟨c, e2, rfl⟩ := h2
   have := e1.symm.trans e2
   simp only [Option.some.injEq, Value.pointer.injEq, Addr.mk.injEq] at this
   rw [this.1]
  ·simp only [Den] at h1 h2; rw [h1, h2]
  ·simp only [Den] at h1 h2; rw [h1, h2]
  ·simp only [Den] at h1 h2; rw [h1, h2]
  ·simp only [Den] at h1 h2; rw [h1, h2]
  ·simp only [Den] at h1 h2; rw [h1, h2]
  ·rename_i hh z i len cap
   simp only [Den] at h1 h2
   obtain ⟨b, o, m, C, p, c, e1, rfl, l1, l2, l3, l4, l5⟩ := h1
   obtain ⟨b', o', m', C', p', c', e2, rfl, r1, r2, r3, r4, r5⟩ := h2
   have := e1.symm.trans e2
   simp only [Option.some.injEq, Value.slice.injEq, Addr.mk.injEq] at this
   obtain ⟨⟨rfl, rfl, _⟩, rfl, rfl⟩ := this
   have hlen : 0 < len := Nat.le_of_ble_eq_true h
   rw [l5 (by omega), r5 (by omega)]
   cases cap with
   | none => have := l3 rfl; have := r3 rfl; rw [show c = c' by omega]
   | some q => rw [l4 q rfl, r4 q rfl]
  ·simp only [Den] at h1 h2
   obtain ⟨xs, rfl, a⟩ := h1
   obtain ⟨ys, rfl, b⟩ := h2
   rw [Array.toList_inj.1 (detL_of (detA_ok k) _ h env _ _ a b)]
  ·simp only [Den] at h1 h2
   obtain ⟨u, rfl, a⟩ := h1
   obtain ⟨w, rfl, b⟩ := h2
   rw [detA_ok k _ h env u w a b]
  ·cases h
theorem Ctr.split {P : Program} {g : FuncId} {args : List AV} {R pre post pre' post' kept : Heap} {n n' : Nat} {r : AV} (spec : Ctr P g args R pre n n' r post)
  (h1 : ∀ h q, look pre h = some q → look pre' h = some q ∨ look kept h = some q) (h1' : ∀ h q, look pre' h = some q → look pre h = some q)
  (h2 : ∀ h q, look kept h = some q → look pre h = some q ∧ look pre' h = none ∧ look post' h = none ∧ look post h = some q ∧ ∃ e cs, q = .box e cs ∧ cs.all (detA 20) = true)
  (h3 : ∀ h q, look post' h = some q → look post h = some q) (hR : ∀ h q q', look kept h = some q → look R h = some q' → False) (hdom : domB pre' post' = true) : Ctr P g args (kept ++ R) pre' n n' r post' := by
 obtain ⟨hbody, hnn, _, spec⟩ := spec
 refine ⟨hbody, hnn, hdom, ?_⟩
 intro env F w xs hx hsat hfresh
 have key : ∀ {h q}, look (pre ++ R) h = some q → look (pre' ++ (kept ++ R)) h = some q := by
  intro h q hl
  rw [look_append] at hl
  rw [look_append, look_append]
  cases hq : look pre h with
  | some y =>
   rw [hq] at hl; cases hl
   rcases h1 h q hq with e | e
   ·rw [e]; rfl
   ·rw [(h2 h q e).2.1, e]; rfl
  | none =>
   rw [hq] at hl
   cases hp : look pre' h with
   | some y => rw [h1' h y hp] at hq; cases hq
   | none =>
    cases hk : look kept h with
    | some y => rw [(h2 h y hk).1] at hq; cases hq
    | none => simpa using hl
 have hs : SatH env (pre ++ R) F w := ⟨fun hl => hsat.sat (key hl), fun hl hl' => hsat.apart (key hl) (key hl')⟩
 refine (spec env F w xs hx hs hfresh).mono ?_
 rintro e w' ⟨env', F', x, rfl, t, hden⟩
 have still : ∀ {h q}, look kept h = some q → ∃ b, (∀ k, F h k ↔ k = b) ∧ (∀ k, F' h k ↔ k = b) ∧ w'.heap[b]? = w.heap[b]? := by
  intro h q hk
  obtain ⟨a1, _, _, a2, e, cs, rfl, hdet⟩ := h2 h q hk
  obtain ⟨v, hv, b, ys, rfl, f1, f2, f3⟩ := hs.sat (h := h) (r := .box e cs) (by rw [look_append, a1]; rfl)
  obtain ⟨v', hv', b', ys', rfl, g1, g2, g3⟩ := t.sat.sat a2
  have := (t.le h _ hv).symm.trans hv'
  simp only [Option.some.injEq, Value.pointer.injEq, Addr.mk.injEq, and_true] at this
  subst this
  have : ys.toList = ys'.toList := detL_of (detA_ok 20) cs hdet env' _ _ (Dens.mono t.le cs f3) g3
  rw [Array.toList_inj.1 this] at f2
  exact ⟨b, f1, g1, g2.trans f2.symm⟩
 refine ⟨env', F', x, rfl, ⟨t.le, t.only, ⟨fun hl => t.sat.sat (h3 _ _ hl), fun hl hl' => t.sat.apart (h3 _ _ hl) (h3 _ _ hl')⟩, ?_, ?_⟩, hden⟩
 ·intro h q b hl hb
  rcases t.owns (h3 _ _ hl) hb with ⟨h0, r0, q1, q2, q3⟩ | ⟨h0, r0, q1, q2, q3, q4⟩ | q0
  ·rcases h1 h0 r0 q1 with e | e
   ·exact .inl ⟨h0, r0, e, q2, q3⟩
   ·obtain ⟨b1, f1, f2, _⟩ := still e
    obtain ⟨_, _, a1, a2, e0, cs, rfl, _⟩ := h2 h0 r0 e
    have hne : h0 ≠ h := by rintro rfl; rw [a1] at hl; cases hl
    exact absurd hb (t.sat.apart a2 (h3 _ _ hl) hne rfl b ((f2 b).2 ((f1 b).1 q2)))
  ·refine .inr (.inl ⟨h0, r0, ?_, q2, q3, q4⟩)
   rw [look_append]
   cases hk : look kept h0 with
   | some y => exact absurd q1 (fun q1 => hR h0 y r0 hk q1)
   | none => simpa using q1
  ·exact .inr (.inr q0)
 ·refine ⟨t.frame.os, t.frame.tape, t.frame.output, t.frame.size, fun b hb hno => ?_⟩
  by_cases ho : Owned pre F b
  ·obtain ⟨h, q, a1, a2, a3⟩ := ho
   rcases h1 h q a1 with e | e
   ·exact absurd ⟨h, q, e, a2, a3⟩ hno
   ·obtain ⟨b1, f1, _, f3⟩ := still e
    rw [(f1 b).1 a3]; exact f3
  ·exact t.frame.block b hb ho
def keptB (post : Heap) (p : Nat × Res) : Bool := match p.2 with
 | .box e cs => match look post p.1 with
  | some (.box e' cs') => Nat.beq e e' && (eqList (eqA 20) cs cs' && cs.all (detA 20))
  | _ => false
 | _ => false
theorem keptB_ok {post : Heap} {p : Nat × Res} (h : keptB post p = true) : look post p.1 = some p.2 ∧ ∃ e cs, p.2 = .box e cs ∧ cs.all (detA 20) = true := by
 unfold keptB at h
 split at h
 ·rename_i e cs hp
  split at h
  ·rename_i e' cs' hl
   simp only [Bool.and_eq_true] at h
   rw [Nat.eq_of_beq_eq_true h.1, eqList_ok (eqA_ok 20) _ _ h.2.1] at hp
   rw [hl, hp]
   refine ⟨rfl, _, _, rfl, ?_⟩
   rw [← eqList_ok (eqA_ok 20) _ _ h.2.1]; exact h.2.2
  ·cases h
 ·cases h
def inK (l : Heap) (k : Nat) : Bool := l.any fun p => Nat.beq p.1 k
theorem inK_iff {l : Heap} {k : Nat} : inK l k = true ↔ ∃ q, look l k = some q := by
 induction l with
 | nil => simp [inK, lookN]
 | cons p l ih =>
  rw [look_cons]
  simp only [inK, List.any_cons, Bool.or_eq_true] at ih ⊢
  constructor
  ·rintro (h | h)
   ·exact ⟨p.2, by rw [if_pos (Nat.eq_of_beq_eq_true h)]⟩
   ·split
    ·exact ⟨_, rfl⟩
    ·exact ih.1 h
  ·rintro ⟨q, h⟩
   split at h
   ·rename_i e; exact .inl (by rw [e]; exact Nat.beq_refl k)
   ·exact .inr (ih.2 ⟨q, h⟩)
def restP (kept : Heap) (p : Nat × Res) : Bool := !inK kept p.1
theorem look_rest {kept : Heap} {k : Nat} : ∀ {l : Heap}, look (filterR l (restP kept)) k = if inK kept k = true then none else look l k
 | [] => by rw [filterR_eq]; simp [lookN]
 | p :: l => by
  have ih := look_rest (kept := kept) (k := k) (l := l)
  rw [filterR_eq] at ih ⊢
  rw [List.filter_cons, look_cons]
  by_cases hp : p.1 = k
  ·by_cases hk : inK kept k = true
   ·have : restP kept p = false := by simp [restP, hp, hk]
    rw [this, if_pos hk]
    simp only [Bool.false_eq_true, if_false]
    rw [ih, if_pos hk]
   ·have : restP kept p = true := by simp [restP, hp, hk]
    rw [this]
    simp only [if_true]
    rw [look_cons, if_pos hp, if_neg hk, if_pos hp]
  ·rw [if_neg hp]
   cases hr : restP kept p with
   | true =>
    simp only [if_true]
    rw [look_cons, if_neg hp, ih]
   | false =>
    simp only [Bool.false_eq_true, if_false]
    exact ih
theorem Ctr.keep {P : Program} {g : FuncId} {vs : List AV} {H acc post : Heap} {n n' : Nat} {v : AV} (hacc : ∀ p ∈ acc, look H p.1 = some p.2) (spec : Ctr P g vs (filterR acc roP) (filterR acc exB) n n' v post) :
  Ctr P g vs (filterR (filterR acc exB) (keptB post) ++ filterR acc roP) (filterR (filterR acc exB) fun p => !keptB post p) n n' v (filterR post (restP (filterR (filterR acc exB) (keptB post)))) := by
 have mem : ∀ {f : Nat × Res → Bool} {h q}, look (filterR acc f) h = some q → (h, q) ∈ acc ∧ f (h, q) = true ∧ look H h = some q := by
  intro f h q hl
  rw [filterR_eq] at hl
  have := look_mem hl
  rw [List.mem_filter] at this
  exact ⟨this.1, this.2, hacc _ this.1⟩
 have mem2 : ∀ {f : Nat × Res → Bool} {h q}, look (filterR (filterR acc exB) f) h = some q → (h, q) ∈ acc ∧ q.excl = true ∧ f (h, q) = true ∧ look H h = some q := by
  intro f h q hl
  rw [filterR_eq, filterR_eq] at hl
  have := look_mem hl
  rw [List.mem_filter, List.mem_filter] at this
  exact ⟨this.1.1, this.1.2, this.2, hacc _ this.1.1⟩
 have get : ∀ {f : Nat × Res → Bool} {h q}, (h, q) ∈ acc → q.excl = true → f (h, q) = true → look (filterR (filterR acc exB) f) h = some q := by
  intro f h q hm hx hf
  have hin : (h, q) ∈ filterR (filterR acc exB) f := by
   rw [filterR_eq, filterR_eq, List.mem_filter, List.mem_filter]; exact ⟨⟨hm, hx⟩, hf⟩
  cases hl : look (filterR (filterR acc exB) f) h with
  | none =>
   have : inK (filterR (filterR acc exB) f) h = true := List.any_eq_true.2 ⟨_, hin, Nat.beq_refl h⟩
   obtain ⟨y, hy⟩ := inK_iff.1 this
   rw [hl] at hy; cases hy
  | some y =>
   have h1 := (mem2 hl).2.2.2
   have h2 := hacc _ hm
   rw [h1] at h2
   exact h2
 have hdom0 := spec.2.2.1
 refine spec.split ?_ ?_ ?_ ?_ ?_ ?_
 ·intro h q hl
  obtain ⟨a, b, _⟩ := mem hl
  cases hk : keptB post (h, q) with
  | true => exact .inr (get a b hk)
  | false => exact .inl (get a b (by rw [hk]; rfl))
 ·intro h q hl
  obtain ⟨a, b, _, c⟩ := mem2 hl
  have hin : (h, q) ∈ filterR acc exB := by rw [filterR_eq, List.mem_filter]; exact ⟨a, b⟩
  cases hl2 : look (filterR acc exB) h with
  | none =>
   have : inK (filterR acc exB) h = true := List.any_eq_true.2 ⟨_, hin, Nat.beq_refl h⟩
   obtain ⟨y, hy⟩ := inK_iff.1 this
   rw [hl2] at hy; cases hy
  | some y => have := (mem hl2).2.2; rw [c] at this; exact this.symm
 ·intro h q hl
  obtain ⟨a, b, k, c⟩ := mem2 hl
  obtain ⟨k1, k2⟩ := keptB_ok k
  refine ⟨?_, ?_, ?_, k1, k2⟩
  ·have hin : (h, q) ∈ filterR acc exB := by rw [filterR_eq, List.mem_filter]; exact ⟨a, b⟩
   cases hl2 : look (filterR acc exB) h with
   | none =>
    have : inK (filterR acc exB) h = true := List.any_eq_true.2 ⟨_, hin, Nat.beq_refl h⟩
    obtain ⟨y, hy⟩ := inK_iff.1 this
    rw [hl2] at hy; cases hy
   | some y => have := (mem hl2).2.2; rw [c] at this; exact this.symm
  ·cases hl2 : look (filterR (filterR acc exB) fun p => !keptB post p) h with
   | none => rfl
   | some y =>
    obtain ⟨_, _, k', c'⟩ := mem2 hl2
    rw [c] at c'; cases c'
    rw [k] at k'; cases k'
  ·rw [look_rest, if_pos (inK_iff.2 ⟨q, hl⟩)]
 ·intro h q hl
  rw [look_rest] at hl
  split at hl
  ·cases hl
  ·exact hl
 ·intro h q q' hl hl'
  obtain ⟨_, b, _, c⟩ := mem2 hl
  obtain ⟨_, b', c'⟩ := mem hl'
  rw [c] at c'; cases c'
  have b' : (match q.excl with | true => false | false => true) = true := b'
  rw [b] at b'; cases b'
 ·unfold domB at hdom0 ⊢
  rw [List.all_eq_true] at hdom0 ⊢
  rintro ⟨h, q⟩ hp
  rw [filterR_eq, filterR_eq, List.mem_filter, List.mem_filter] at hp
  obtain ⟨⟨p1, p2⟩, p3⟩ := hp
  have h0 := hdom0 (h, q) (by rw [filterR_eq, List.mem_filter]; exact ⟨p1, p2⟩)
  obtain ⟨⟨h', y⟩, y1, y2⟩ := List.any_eq_true.1 h0
  refine List.any_eq_true.2 ⟨(h', y), ?_, y2⟩
  have e : h = h' := Nat.eq_of_beq_eq_true y2
  rw [filterR_eq, List.mem_filter]
  refine ⟨y1, ?_⟩
  cases hk : inK (filterR (filterR acc exB) (keptB post)) h' with
  | false => show (!inK (filterR (filterR acc exB) (keptB post)) h') = true; rw [hk]; rfl
  | true =>
   obtain ⟨z, hz⟩ := inK_iff.1 hk
   obtain ⟨_, _, kz, cz⟩ := mem2 hz
   have := hacc _ p1
   simp only at this
   rw [e, cz] at this
   cases this
   rw [← e] at kz
   rw [kz] at p3; cases p3
end
end Go.SX
-- SQUEEZED
