/- SX, part P: walks that compute. -/
import Derived.Test.YtbdlkehjnfnajaaSXO
namespace Go.SX

def numK {α : Type} (n : Nat) (K : Nat → α) : α :=
  match n with
  | 0 => K 0
  | k + 1 => K (Nat.succ k)

theorem numK_eq {α : Type} (n : Nat) (K : Nat → α) : numK n K = K n := by cases n <;> rfl

def intK {α : Type} (n : Int) (K : Int → α) : α :=
  match n with
  | .ofNat m => numK m fun m => K (.ofNat m)
  | .negSucc m => numK m fun m => K (.negSucc m)

theorem intK_eq {α : Type} (n : Int) (K : Int → α) : intK n K = K n := by cases n <;> simp [intK, numK_eq]

/-- A set of numbers, as one number. -/
def inM (m k : Nat) : Bool :=
  match Nat.land (Nat.shiftRight m k) 1 with
  | 0 => false
  | _ + 1 => true
def addM (m k : Nat) : Nat := Nat.lor m (Nat.shiftLeft 1 k)

theorem inM_eq (m k : Nat) : inM m k = m.testBit k := by
  unfold inM Nat.testBit
  show (match (m >>> k) &&& 1 with | 0 => false | _ + 1 => true) = (1 &&& (m >>> k) != 0)
  rw [Nat.and_comm 1]
  cases (m >>> k) &&& 1 <;> simp

theorem inM_zero (k : Nat) : inM 0 k = false := by simp [inM_eq]

theorem inM_add (m k t : Nat) : inM (addM m k) t = (inM m t || decide (k = t)) := by
  rw [inM_eq, inM_eq]
  show (m ||| 1 <<< k).testBit t = _
  rw [Nat.testBit_or]
  congr 1
  rw [Nat.one_shiftLeft, Nat.testBit_two_pow]

/-- Each number's first entry. -/
def clean {γ : Type} : List (Nat × γ) → Nat → List (Nat × γ)
  | [], _ => []
  | (k, v) :: l, m => match inM m k with
    | true => clean l m
    | false => (k, v) :: clean l (addM m k)

theorem look_clean {γ : Type} : ∀ {l : List (Nat × γ)} {m t : Nat}, look (clean l m) t = if inM m t then none else look l t
  | [], m, t => by simp [clean, look]
  | (k, v) :: l, m, t => by
    unfold clean
    cases h : inM m k with
    | true =>
      simp only
      rw [look_clean, look_cons]
      by_cases e : k = t
      · subst e; simp [h]
      · simp [e]
    | false =>
      simp only
      rw [look_cons, look_cons, look_clean, inM_add]
      by_cases e : k = t
      · subst e; simp [h]
      · simp [e]

theorem look_clean0 {γ : Type} {l : List (Nat × γ)} {t : Nat} : look (clean l 0) t = look l t := by rw [look_clean, inM_zero]; simp

mutual
/-- The handles of a value. -/
def hsA : AV → List Nat → List Nat
  | .hd h, a => h :: a
  | .sl h _, a => h :: a
  | .ptr h _, a => h :: a
  | .el h _ _ _, a => h :: a
  | .slc h _ _ _, a => h :: a
  | .sv h _ _ _ _, a => h :: a
  | .agg l, a => hsL l a
  | .tup l, a => hsL l a
  | .iface _ v, a => hsA v a
  | .fn _ l m, a => hsL l (hsL m a)
  | .bool _, a => a
  | .int _ _, a => a
  | .str _, a => a
  | .nilp, a => a
  | .nils, a => a
  | .nilm, a => a
  | .nilf, a => a
  | .nili, a => a
  | .raw _, a => a
def hsL : List AV → List Nat → List Nat
  | [], a => a
  | v :: l, a => hsA v (hsL l a)
end

def hsM : List (AV × AV) → List Nat → List Nat
  | [], a => a
  | (k, v) :: l, a => hsA k (hsA v (hsM l a))

def hsR : Res → List Nat → List Nat
  | .box _ cs, a => hsL cs a
  | .row _ _ cs _, a => hsL cs a
  | .map es, a => hsM es a
  | .rmap es _ _ it, a => it :: hsM es a
  | .iter m, a => m :: a
  | _, a => a

/-- What can be reached. -/
def reach (H : Heap) : Nat → List Nat → Nat → Heap → Option Heap
  | 0, _, _, _ => none
  | _ + 1, [], _, acc => some acc
  | f + 1, h :: t, m, acc => match inM m h with
    | true => reach H f t m acc
    | false => match look H h with
      | none => reach H f t (addM m h) acc
      | some r => reach H f (hsR r t) (addM m h) ((h, r) :: acc)

theorem reach_mem {H : Heap} : ∀ {f : Nat} {t : List Nat} {m : Nat} {acc out : Heap}, (∀ p ∈ acc, look H p.1 = some p.2) → reach H f t m acc = some out → ∀ p ∈ out, look H p.1 = some p.2
  | 0, _, _, _, _, _, h => by simp [reach] at h
  | _ + 1, [], _, acc, out, ha, h => by simp only [reach, Option.some.injEq] at h; subst h; exact ha
  | f + 1, k :: t, m, acc, out, ha, h => by
    unfold reach at h
    split at h
    · exact reach_mem ha h
    · split at h
      · exact reach_mem ha h
      · rename_i r hr
        refine reach_mem ?_ h
        intro p hp
        rcases List.mem_cons.1 hp with rfl | hp
        · exact hr
        · exact ha p hp

def exB (p : Nat × Res) : Bool := p.2.excl
def roP (p : Nat × Res) : Bool := match p.2.excl with | true => false | false => true

def keysM : Heap → Nat → Nat
  | [], m => m
  | (k, _) :: l, m => keysM l (addM m k)

theorem keysM_in : ∀ {l : Heap} {m t : Nat}, inM (keysM l m) t = true → inM m t = true ∨ ∃ x, look l t = some x
  | [], m, t, h => .inl h
  | (k, r) :: l, m, t, h => by
    unfold keysM at h
    rcases keysM_in h with h | ⟨x, hx⟩
    · rw [inM_add] at h
      simp only [Bool.or_eq_true, decide_eq_true_eq] at h
      rcases h with h | h
      · exact .inl h
      · subst h; exact .inr ⟨r, by simp [look, Nat.beq_refl]⟩
    · right
      rw [look_cons]
      by_cases e : k = t
      · exact ⟨r, by simp [e]⟩
      · exact ⟨x, by simp [e, hx]⟩

def domM : Heap → Nat → Bool
  | [], _ => true
  | (k, _) :: l, m => inM m k && domM l m

end Go.SX
