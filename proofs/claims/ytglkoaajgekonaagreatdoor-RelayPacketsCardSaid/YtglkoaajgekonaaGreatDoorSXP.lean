/- SX, part P: walks that compute. -/
import Derived.Test.YtglkoaajgekonaaGreatDoorSXL
namespace Go.SX
noncomputable section
def numK {α : Type} (n : Nat) (K : Nat → α) : α :=
 match n with
 | 0 => K 0
 | k + 1 => K (Nat.succ k)
theorem numK_eq {α : Type} (n : Nat) (K : Nat → α) : numK n K = K n := by cases n <;> rfl
def intK {α : Type} (n : Int) (K : Int → α) : α :=
 match n with
 | .ofNat m => numK m fun m => K (.ofNat m)
 | .negSucc m => numK m fun m => K (.negSucc m)
theorem intK_eq {α : Type} (n : Int) (K : Int → α) : intK n K = K n := by cases n <;> simp [intK, numK_eq]
def byteL {α : Type} (l : List UInt8) : (List UInt8 → α) → α := List.rec (motive := fun _ => (List UInt8 → α) → α) (fun K => K []) (fun b _ ih K => numK b.toNat fun n => ih fun l => K (UInt8.ofNat n :: l)) l
theorem byteL_cons {α : Type} (b : UInt8) (l : List UInt8) (K : List UInt8 → α) : byteL (b :: l) K = numK b.toNat fun n => byteL l fun l => K (UInt8.ofNat n :: l) := rfl
theorem byteL_eq {α : Type} : ∀ (l : List UInt8) (K : List UInt8 → α), byteL l K = K l
 | [], _ => rfl
 | b :: l, K => by simp [byteL_cons, numK_eq, byteL_eq l]
def strK {α : Type} (s : ByteArray) (K : ByteArray → α) : α := byteL s.data.toList fun l => K ⟨⟨l⟩⟩
theorem strK_eq {α : Type} (s : ByteArray) (K : ByteArray → α) : strK s K = K s := by
 unfold strK
 rw [byteL_eq]
def inM (m k : Nat) : Bool :=
 match Nat.land (Nat.shiftRight m k) 1 with
 | 0 => false
 | _ + 1 => true
def addM (m k : Nat) : Nat := Nat.lor m (Nat.shiftLeft 1 k)
theorem inM_eq (m k : Nat) : inM m k = m.testBit k := by
 unfold inM Nat.testBit
 show (match (m >>> k) &&& 1 with | 0 => false | _ + 1 => true) = (1 &&& (m >>> k) != 0)
 rw [Nat.and_comm 1]
 cases (m >>> k) &&& 1 <;> simp
theorem inM_zero (k : Nat) : inM 0 k = false := by simp [inM_eq]
theorem inM_add (m k t : Nat) : inM (addM m k) t = (inM m t || decide (k = t)) := by
 rw [inM_eq, inM_eq]
 show (m ||| 1 <<< k).testBit t = _
 rw [Nat.testBit_or]
 congr 1
 rw [Nat.one_shiftLeft, Nat.testBit_two_pow]
def clean {γ : Type} (l : List (Nat × γ)) (m : Nat) : List (Nat × γ) := List.rec (motive := fun _ => Nat → List (Nat × γ)) (fun _ => []) (fun p _ ih m => Bool.rec (p :: ih (addM m p.1)) (ih m) (inM m p.1)) l m
theorem clean_nil {γ : Type} (m : Nat) : clean ([] : List (Nat × γ)) m = [] := rfl
theorem clean_cons {γ : Type} (k : Nat) (v : γ) (l : List (Nat × γ)) (m : Nat) : clean ((k, v) :: l) m = (match inM m k with
  | true => clean l m
  | false => (k, v) :: clean l (addM m k)) := by
 show (Bool.rec ((k, v) :: clean l (addM m k)) (clean l m) (inM m k) : List (Nat × γ)) = _
 cases inM m k <;> rfl
theorem look_clean {γ : Type} : ∀ {l : List (Nat × γ)} {m t : Nat}, look (clean l m) t = if inM m t then none else look l t
 | [], m, t => by simp [clean_nil, lookN]
 | (k, v) :: l, m, t => by
  rw [clean_cons]
  cases h : inM m k with
  | true =>
   simp only
   rw [look_clean, look_cons]
   by_cases e : k = t
   ·subst e; simp [h]
   ·simp [e]
  | false =>
   simp only
   rw [look_cons, look_cons, look_clean, inM_add]
   by_cases e : k = t
   ·subst e; simp [h]
   ·simp [e]
theorem look_clean0 {γ : Type} {l : List (Nat × γ)} {t : Nat} : look (clean l 0) t = look l t := by rw [look_clean, inM_zero]; simp
def hsA (v : AV) : List Nat → List Nat := AV.rec (motive_1 := fun _ => List Nat → List Nat) (motive_2 := fun _ => List Nat → List Nat)
 (fun _ a => a) (fun _ _ a => a) (fun _ a => a) (fun h a => h :: a) (fun h _ a => h :: a) (fun h _ a => h :: a) (fun h _ _ _ a => h :: a) (fun h _ _ _ a => h :: a) (fun h _ _ _ _ a => h :: a) (fun h a => h :: a)
 (fun a => a) (fun a => a) (fun a => a) (fun a => a) (fun a => a) (fun _ ih => ih) (fun _ ih => ih) (fun _ _ ih => ih) (fun _ _ _ ihl ihm a => ihl (ihm a)) (fun _ a => a) (fun a => a) (fun _ _ ihv ihl a => ihv (ihl a)) v
def hsL (l : List AV) (a : List Nat) : List Nat := List.rec (motive := fun _ => List Nat) a (fun v _ ih => hsA v ih) l
def hsM (l : List (AV × AV)) (a : List Nat) : List Nat := List.rec (motive := fun _ => List Nat) a (fun p _ ih => hsA p.1 (hsA p.2 ih)) l
def hsF (l : List (Nat × AV)) (a : List Nat) : List Nat := List.rec (motive := fun _ => List Nat) a (fun p _ ih => hsA p.2 ih) l
def hsR : Res → List Nat → List Nat
 | .loop L, a => L.dh :: hsF L.fr a
 | .box _ cs, a => hsL cs a
 | .row _ _ cs _, a => hsL cs a
 | .map es, a => hsM es a
 | .rmap es _ _ it, a => it :: hsM es a
 | .iter m, a => m :: a
 | _, a => a
def reach (H : Heap) (f : Nat) : List Nat → Nat → Heap → Option Heap := Nat.rec (motive := fun _ => List Nat → Nat → Heap → Option Heap) (fun _ _ _ => none) (fun _ ih t m acc => match t with
 | [] => some acc
 | h :: t => match inM m h with
  | true => ih t m acc
  | false => match look H h with
   | none => ih t (addM m h) acc
   | some r => ih (hsR r t) (addM m h) ((h, r) :: acc)) f
theorem reach_zero (H : Heap) (t : List Nat) (m : Nat) (acc : Heap) : reach H 0 t m acc = none := rfl
theorem reach_nil (H : Heap) (f m : Nat) (acc : Heap) : reach H (f + 1) [] m acc = some acc := rfl
theorem reach_cons (H : Heap) (f h : Nat) (t : List Nat) (m : Nat) (acc : Heap) : reach H (f + 1) (h :: t) m acc = (match inM m h with
  | true => reach H f t m acc
  | false => match look H h with
   | none => reach H f t (addM m h) acc
   | some r => reach H f (hsR r t) (addM m h) ((h, r) :: acc)) := rfl
theorem reach_mem {H : Heap} : ∀ {f : Nat} {t : List Nat} {m : Nat} {acc out : Heap}, (∀ p ∈ acc, look H p.1 = some p.2) → reach H f t m acc = some out → ∀ p ∈ out, look H p.1 = some p.2
 | 0, _, _, _, _, _, h => by simp [reach_zero] at h
 | _ + 1, [], _, acc, out, ha, h => by simp only [reach_nil, Option.some.injEq] at h; subst h; exact ha
 | f + 1, k :: t, m, acc, out, ha, h => by
  rw [reach_cons] at h
  split at h
  ·exact reach_mem ha h
  ·split at h
   ·exact reach_mem ha h
   ·rename_i r hr
    refine reach_mem ?_ h
    intro p hp
    rcases List.mem_cons.1 hp with rfl | hp
    ·exact hr
    ·exact ha p hp
def exB (p : Nat × Res) : Bool := p.2.excl
def roP (p : Nat × Res) : Bool := match p.2.excl with | true => false | false => true
def keysM (l : Heap) (m : Nat) : Nat := List.rec (motive := fun _ => Nat → Nat) (fun m => m) (fun p _ ih m => ih (addM m p.1)) l m
theorem keysM_cons (k : Nat) (r : Res) (l : Heap) (m : Nat) : keysM ((k, r) :: l) m = keysM l (addM m k) := rfl
theorem keysM_in : ∀ {l : Heap} {m t : Nat}, inM (keysM l m) t = true → inM m t = true ∨ ∃ x, look l t = some x
 | [], m, t, h => .inl h
 | (k, r) :: l, m, t, h => by
  rw [keysM_cons] at h
  rcases keysM_in h with h | ⟨x, hx⟩
  ·rw [inM_add] at h
   simp only [Bool.or_eq_true, decide_eq_true_eq] at h
   rcases h with h | h
   ·exact .inl h
   ·subst h; exact .inr ⟨r, by simp [lookC, Nat.beq_refl]⟩
  ·right
   rw [look_cons]
   by_cases e : k = t
   ·exact ⟨r, by simp [e]⟩
   ·exact ⟨x, by simp [e, hx]⟩
def domM (H : Heap) (m : Nat) : Bool := List.rec (motive := fun _ => Bool) true (fun p _ ih => Bool.rec false ih (inM m p.1)) H
theorem domM_cons (k : Nat) (r : Res) (l : Heap) (m : Nat) : domM ((k, r) :: l) m = (inM m k && domM l m) := by
 show (Bool.rec false (domM l m) (inM m k) : Bool) = _
 cases inM m k <;> rfl
end
end Go.SX
-- SQUEEZED
