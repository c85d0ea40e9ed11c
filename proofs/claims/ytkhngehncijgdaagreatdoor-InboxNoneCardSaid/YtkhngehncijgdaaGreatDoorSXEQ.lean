/- Equality of values and heaps that a kernel computes: for overrides at given arguments. -/
import Derived.Test.YtkhngehncijgdaaGreatDoorSXU
namespace Go.SX
noncomputable section

def eqList {α : Type} (f : α → α → Bool) : List α → List α → Bool
  | [], [] => true
  | a :: l, b :: m => f a b && eqList f l m
  | _, _ => false

theorem eqList_ok {α : Type} {f : α → α → Bool} (h : ∀ a b, f a b = true → a = b) : ∀ l m, eqList f l m = true → l = m
  | [], [], _ => rfl
  | a :: l, b :: m, e => by
    simp only [eqList, Bool.and_eq_true] at e
    rw [h a b e.1, eqList_ok h l m e.2]
  | [], _ :: _, e => by cases e
  | _ :: _, [], e => by cases e

def eqO {α : Type} (f : α → α → Bool) : Option α → Option α → Bool
  | none, none => true
  | some a, some b => f a b
  | _, _ => false

theorem eqO_ok {α : Type} {f : α → α → Bool} (h : ∀ a b, f a b = true → a = b) : ∀ l m, eqO f l m = true → l = m
  | none, none, _ => rfl
  | some a, some b, e => by rw [h a b e]
  | none, some _, e => by cases e
  | some _, none, e => by cases e

def eqS (a b : ByteArray) : Bool := eqList (fun x y : UInt8 => Nat.beq x.toNat y.toNat) a.data.toList b.data.toList

theorem eqS_ok (a b : ByteArray) (h : eqS a b = true) : a = b := by
  have := eqList_ok (f := fun x y : UInt8 => Nat.beq x.toNat y.toNat) (fun x y h => UInt8.toNat_inj.1 (Nat.eq_of_beq_eq_true h)) _ _ h
  cases a with | mk a => cases b with | mk b =>
  simp only at this
  rw [Array.toList_inj.1 this]

def eqA : Nat → AV → AV → Bool
  | 0, _, _ => false
  | k + 1, a, b => match a, b with
    | .bool x, .bool y => Bool.rec (!y) y x
    | .int x i, .int y j => decide (x = y) && eqI i j
    | .str x, .str y => eqS x y
    | .hd x, .hd y => Nat.beq x y
    | .ptr x o, .ptr y p => Nat.beq x y && Nat.beq o p
    | .sv h z i l c, .sv h' z' i' l' c' => Nat.beq h h' && (Nat.beq z z' && (Nat.beq i i' && (Nat.beq l l' && eqO Nat.beq c c')))
    | .nilp, .nilp => true
    | .nils, .nils => true
    | .nilm, .nilm => true
    | .nilf, .nilf => true
    | .nili, .nili => true
    | .agg l, .agg m => eqList (eqA k) l m
    | .iface t x, .iface u y => Nat.beq t u && eqA k x y
    | _, _ => false

theorem eqA_ok : ∀ k a b, eqA k a b = true → a = b
  | 0, _, _, h => by cases h
  | k + 1, a, b, h => by
    unfold eqA at h
    split at h
    · rename_i x y; cases x <;> cases y <;> first | rfl | cases h
    · simp only [Bool.and_eq_true, decide_eq_true_eq] at h
      rw [h.1]; have := h.2; rw [eqI_eq] at this; rw [of_decide_eq_true this]
    · rw [eqS_ok _ _ h]
    · rw [Nat.eq_of_beq_eq_true h]
    · simp only [Bool.and_eq_true] at h
      rw [Nat.eq_of_beq_eq_true h.1, Nat.eq_of_beq_eq_true h.2]
    · simp only [Bool.and_eq_true] at h
      obtain ⟨h1, h2, h3, h4, h5⟩ := h
      rw [Nat.eq_of_beq_eq_true h1, Nat.eq_of_beq_eq_true h2, Nat.eq_of_beq_eq_true h3, Nat.eq_of_beq_eq_true h4, eqO_ok (fun _ _ => Nat.eq_of_beq_eq_true) _ _ h5]
    any_goals rfl
    · rw [eqList_ok (eqA_ok k) _ _ h]
    · simp only [Bool.and_eq_true] at h
      rw [Nat.eq_of_beq_eq_true h.1, eqA_ok k _ _ h.2]
    · cases h

def eqP (k : Nat) (p q : AV × AV) : Bool := eqA k p.1 q.1 && eqA k p.2 q.2
theorem eqP_ok (k : Nat) (p q : AV × AV) (h : eqP k p q = true) : p = q := by
  simp only [eqP, Bool.and_eq_true] at h
  exact Prod.ext (eqA_ok k _ _ h.1) (eqA_ok k _ _ h.2)
def eqR (k : Nat) : Res → Res → Bool
  | .box e c, .box e' c' => Nat.beq e e' && eqList (eqA k) c c'
  | .row e z c p, .row e' z' c' p' => Nat.beq e e' && (Nat.beq z z' && (eqList (eqA k) c c' && eqO Nat.beq p p'))
  | .map l, .map m => eqList (eqP k) l m
  | _, _ => false

theorem eqR_ok (k : Nat) : ∀ a b, eqR k a b = true → a = b := by
  intro a b h
  unfold eqR at h
  split at h
  · simp only [Bool.and_eq_true] at h
    rw [Nat.eq_of_beq_eq_true h.1, eqList_ok (eqA_ok k) _ _ h.2]
  · simp only [Bool.and_eq_true] at h
    obtain ⟨h1, h2, h3, h4⟩ := h
    rw [Nat.eq_of_beq_eq_true h1, Nat.eq_of_beq_eq_true h2, eqList_ok (eqA_ok k) _ _ h3, eqO_ok (fun _ _ => Nat.eq_of_beq_eq_true) _ _ h4]
  · rw [eqList_ok (eqP_ok k) _ _ h]
  · cases h

def eqE (k : Nat) (p q : Nat × Res) : Bool := Nat.beq p.1 q.1 && eqR k p.2 q.2
theorem eqE_ok (k : Nat) (p q : Nat × Res) (h : eqE k p q = true) : p = q := by
  simp only [eqE, Bool.and_eq_true] at h
  exact Prod.ext (Nat.eq_of_beq_eq_true h.1) (eqR_ok k _ _ h.2)
def eqH (k : Nat) (l m : Heap) : Bool := eqList (eqE k) l m

theorem eqH_ok (k : Nat) (l m : Heap) (h : eqH k l m = true) : l = m := eqList_ok (eqE_ok k) _ _ h

/-- A call that was run by itself, at these arguments. -/
def atOv (f : FuncId) (vs : List AV) (pre : Heap) (n : Nat) (val : AV × Heap × Nat) : Ov := fun g us pr R m =>
  match Nat.beq g f && Nat.beq m n && (eqList (eqA 20) us vs && (eqH 20 pr pre && roB R)) with
  | true => some val
  | false => none

theorem atOv_ok {P : Program} {f : FuncId} {vs : List AV} {pre : Heap} {n : Nat} {v : AV} {post : Heap} {n' : Nat} (hex : allR pre exB = true) (hd : domB pre post = true) (c : Ctr P f vs [] pre n n' v post) : OvOK P (atOv f vs pre n (v, post, n')) := by
  intro g us pr R m v1 p1 n1 h
  unfold atOv at h
  split at h
  · rename_i hb
    simp only [Bool.and_eq_true] at hb
    obtain ⟨⟨b1, b2⟩, b3, b4, b5⟩ := hb
    rw [Nat.eq_of_beq_eq_true b1, Nat.eq_of_beq_eq_true b2, eqList_ok (eqA_ok 20) _ _ b3, eqH_ok 20 _ _ b4]
    cases h
    refine (c.frame (R' := R) (pre' := pre) (fun k q hl => ?_) (fun k q hl => ?_) (fun k q hl => by simp [lookN] at hl) (fun k q hl => by rw [look_append, hl]; rfl)).weak (fun k q hl => .inl (by rw [look_append, hl]; rfl)) hd
    · have := (roB_all R) ▸ b5
      have := List.all_eq_true.1 this _ (look_mem hl)
      simpa using this
    · have := (allR_eq pre exB) ▸ hex
      exact List.all_eq_true.1 this _ (look_mem hl)
  · cases h

end
end Go.SX
