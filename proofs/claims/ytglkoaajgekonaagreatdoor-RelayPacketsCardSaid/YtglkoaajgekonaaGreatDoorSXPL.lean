/- SX, part PL: pairs of texts in order: the plain law of a store. -/
import Derived.Test.YtglkoaajgekonaaGreatDoorSXR
namespace Go.SX
theorem cmpA_cases : ∀ l m : List UInt8, cmpA l m = -1 ∨ cmpA l m = 0 ∨ cmpA l m = 1
 | [], [] => .inr (.inl rfl)
 | [], _ :: _ => .inl rfl
 | _ :: _, [] => .inr (.inr rfl)
 | x :: l, y :: m => by
  unfold cmpA
  cases Nat.beq x.toNat y.toNat with
  | true => exact cmpA_cases l m
  | false => cases Nat.blt x.toNat y.toNat <;> simp
theorem cmpA_zero : ∀ l m : List UInt8, cmpA l m = 0 ↔ l = m
 | [], [] => by simp [cmpA]
 | [], _ :: _ => by simp [cmpA]
 | _ :: _, [] => by simp [cmpA]
 | x :: l, y :: m => by
  unfold cmpA
  cases h : Nat.beq x.toNat y.toNat with
  | true =>
   have := UInt8.toNat_inj.1 (Nat.eq_of_beq_eq_true h)
   subst this
   simp [cmpA_zero l m]
  | false =>
   have : x ≠ y := by rintro rfl; rw [Nat.beq_refl] at h; cases h
   cases Nat.blt x.toNat y.toNat <;> simp [this]
theorem cmpA_cons (x y : UInt8) (l m : List UInt8) : cmpA (x :: l) (y :: m) = if x = y then cmpA l m else if x.toNat < y.toNat then -1 else 1 := by
 conv => lhs; unfold cmpA
 cases h : Nat.beq x.toNat y.toNat with
 | true =>
  have := UInt8.toNat_inj.1 (Nat.eq_of_beq_eq_true h)
  simp [this]
 | false =>
  have hne : x ≠ y := by rintro rfl; rw [Nat.beq_refl] at h; cases h
  rw [if_neg hne]
  cases h2 : Nat.blt x.toNat y.toNat with
  | true => have := Nat.le_of_ble_eq_true h2; simp only; rw [if_pos (by omega)]
  | false =>
   have : ¬ x.toNat < y.toNat := fun e => by rw [show Nat.blt x.toNat y.toNat = true from Nat.ble_eq_true_of_le e] at h2; cases h2
   simp only; rw [if_neg this]
theorem cmpA_swap : ∀ l m : List UInt8, cmpA m l = - cmpA l m
 | [], [] => rfl
 | [], _ :: _ => rfl
 | _ :: _, [] => rfl
 | x :: l, y :: m => by
  rw [cmpA_cons, cmpA_cons]
  by_cases h : x = y
  ·rw [if_pos h, if_pos h.symm]; exact cmpA_swap l m
  ·rw [if_neg h, if_neg (fun e => h e.symm)]
   have : x.toNat ≠ y.toNat := fun e => h (UInt8.toNat_inj.1 e)
   split <;> split <;> first | rfl | omega
theorem cmpA_trans : ∀ l m k : List UInt8, cmpA l m < 0 → cmpA m k < 0 → cmpA l k < 0
 | [], [], _, h, _ => by simp [cmpA] at h
 | _ :: _, [], _, h, _ => by simp [cmpA] at h
 | _, _ :: _, [], _, h => by simp [cmpA] at h
 | [], _ :: _, _ :: _, _, _ => by simp [cmpA]
 | x :: l, y :: m, z :: k, h1, h2 => by
  rw [cmpA_cons] at h1 h2 ⊢
  by_cases e1 : x = y
  ·subst e1
   rw [if_pos rfl] at h1
   by_cases e2 : x = z
   ·subst e2
    rw [if_pos rfl] at h2 ⊢
    exact cmpA_trans l m k h1 h2
   ·rw [if_neg e2] at h2 ⊢; exact h2
  ·rw [if_neg e1] at h1
   split at h1
   ·rename_i l1
    by_cases e2 : y = z
    ·subst e2
     rw [if_neg e1, if_pos l1]; decide
    ·rw [if_neg e2] at h2
     split at h2
     ·rename_i l2
      have : x.toNat < z.toNat := by omega
      have hne : x ≠ z := by rintro rfl; omega
      rw [if_neg hne, if_pos this]; decide
     ·exact absurd h2 (by decide)
   ·exact absurd h1 (by decide)
theorem cmpA_less : ∀ l m : List UInt8, Op.bytesLess l m = decide (cmpA l m < 0)
 | [], [] => by simp [cmpA, Op.bytesLess]
 | [], _ :: _ => by simp [cmpA, Op.bytesLess]
 | _ :: _, [] => by simp [cmpA, Op.bytesLess]
 | x :: l, y :: m => by
  rw [cmpA_cons]
  unfold Op.bytesLess
  by_cases h : x = y
  ·subst h
   simp [cmpA_less l m]
  ·have : x.toNat ≠ y.toNat := fun e => h (UInt8.toNat_inj.1 e)
   by_cases h2 : x.toNat < y.toNat
   ·simp [h, h2, UInt8.lt_iff_toNat_lt]
   ·have h3 : y.toNat < x.toNat := by omega
    simp [h, h2, UInt8.lt_iff_toNat_lt]
abbrev KV := ByteArray × ByteArray
def cmpB (a b : ByteArray) : Int := cmpA a.data.toList b.data.toList
theorem cmpB_zero (a b : ByteArray) : cmpB a b = 0 ↔ a = b := by
 unfold cmpB
 rw [cmpA_zero]
 exact ⟨fun e => ByteArray.ext (Array.ext' e), fun e => by rw [e]⟩
theorem cmpB_trans {a b c : ByteArray} (h : cmpB a b < 0) (k : cmpB b c < 0) : cmpB a c < 0 := cmpA_trans _ _ _ h k
theorem cmpB_swap (a b : ByteArray) : cmpB b a = - cmpB a b := cmpA_swap _ _
theorem slt_cmp (a b : ByteArray) : slt a b = decide (cmpB a b < 0) := cmpA_less _ _
def Srt (L : List KV) : Prop := L.Pairwise fun a b => cmpB a.1 b.1 < 0
def posL : List KV → ByteArray → Nat
 | [], _ => 0
 | p :: l, key => if cmpB p.1 key < 0 then posL l key + 1 else 0
def hasL (L : List KV) (key : ByteArray) : Bool := match L[posL L key]? with
 | some p => decide (cmpB p.1 key = 0)
 | none => false
def getL (L : List KV) (key : ByteArray) : ByteArray := match hasL L key, L[posL L key]? with
 | true, some p => p.2
 | _, _ => ⟨⟨[]⟩⟩
def setL (L : List KV) (key v : ByteArray) : List KV := match hasL L key with
 | true => L.set (posL L key) (key, v)
 | false => L.take (posL L key) ++ (key, v) :: L.drop (posL L key)
def delL (L : List KV) (key : ByteArray) : List KV := match hasL L key with
 | true => L.eraseIdx (posL L key)
 | false => L
theorem posL_le : ∀ (L : List KV) (key : ByteArray), posL L key ≤ L.length
 | [], _ => Nat.le_refl _
 | p :: l, key => by
  unfold posL
  split
  ·simp only [List.length_cons]; have := posL_le l key; omega
  ·exact Nat.zero_le _
theorem posL_lt {L : List KV} (hs : Srt L) {key : ByteArray} {i : Nat} (hi : i < L.length) : cmpB L[i].1 key < 0 ↔ i < posL L key := by
 induction L generalizing i with
 | nil => simp at hi
 | cons p l ih =>
  unfold Srt at hs
  rw [List.pairwise_cons] at hs
  unfold posL
  cases i with
  | zero => by_cases h : cmpB p.1 key < 0 <;> simp [h]
  | succ i =>
   have hi' : i < l.length := by simpa using hi
   simp only [List.getElem_cons_succ]
   by_cases h : cmpB p.1 key < 0
   ·rw [if_pos h, ih hs.2 hi']; omega
   ·rw [if_neg h]
    constructor
    ·intro h2
     exact absurd (cmpB_trans (hs.1 _ (List.getElem_mem hi')) h2) h
    ·intro h2; omega
theorem hasL_lt {L : List KV} {key : ByteArray} (h : hasL L key = true) : ∃ hp : posL L key < L.length, L[posL L key].1 = key := by
 unfold hasL at h
 split at h
 ·rename_i p hp
  have hl : posL L key < L.length := by
   rcases Nat.lt_or_ge (posL L key) L.length with q | q
   ·exact q
   ·rw [List.getElem?_eq_none q] at hp; cases hp
  refine ⟨hl, ?_⟩
  rw [List.getElem?_eq_getElem hl] at hp
  cases hp
  exact (cmpB_zero _ _).1 (by simpa using h)
 ·cases h
theorem hasL_at {L : List KV} {key : ByteArray} (hl : posL L key < L.length) : hasL L key = decide (cmpB L[posL L key].1 key = 0) := by
 unfold hasL; rw [List.getElem?_eq_getElem hl]
theorem hasL_out {L : List KV} {key : ByteArray} (hl : L.length ≤ posL L key) : hasL L key = false := by
 unfold hasL; rw [List.getElem?_eq_none hl]
theorem getL_no {L : List KV} {key : ByteArray} (h : hasL L key = false) : getL L key = ⟨#[]⟩ := by unfold getL; rw [h]
theorem getL_yes {L : List KV} {key : ByteArray} (h : hasL L key = true) (hp : posL L key < L.length) : getL L key = L[posL L key].2 := by unfold getL; rw [h, List.getElem?_eq_getElem hp]
theorem setL_has {L : List KV} {key v : ByteArray} (h : hasL L key = true) : setL L key v = L.set (posL L key) (key, v) := by unfold setL; rw [h]
theorem setL_new {L : List KV} {key v : ByteArray} (h : hasL L key = false) : setL L key v = L.take (posL L key) ++ (key, v) :: L.drop (posL L key) := by unfold setL; rw [h]
theorem take_lt {L : List KV} {key : ByteArray} : ∀ p ∈ L.take (posL L key), cmpB p.1 key < 0 := by
 induction L with
 | nil => simp
 | cons q l ih =>
  unfold posL
  split
  ·rename_i h
   intro p hp
   rw [List.take_succ_cons] at hp
   rcases List.mem_cons.1 hp with rfl | hp
   ·exact h
   ·exact ih p hp
  ·simp
theorem drop_ge {L : List KV} (hs : Srt L) {key : ByteArray} (hno : hasL L key = false) : ∀ p ∈ L.drop (posL L key), cmpB key p.1 < 0 := by
 intro p hp
 obtain ⟨i, hi, rfl⟩ := List.getElem_of_mem hp
 have hl : posL L key + i < L.length := by simp at hi; omega
 have h1 : ¬ cmpB L[posL L key + i].1 key < 0 := by rw [posL_lt hs hl]; omega
 rw [List.getElem_drop, cmpB_swap]
 have h2 : cmpB L[posL L key + i].1 key ≠ 0 := by
  intro h0
  cases i with
  | zero =>
   rw [hasL_at (by omega)] at hno
   simp at hno h0
   exact hno h0
  | succ i =>
   have e := (cmpB_zero _ _).1 h0
   have hlt : cmpB (L[posL L key]'(by omega)).1 (L[posL L key + (i + 1)]'hl).1 < 0 := List.pairwise_iff_getElem.1 hs _ _ (by omega) hl (by omega)
   rw [e, posL_lt hs (by omega)] at hlt
   omega
 rcases cmpA_cases L[posL L key + i].1.data.toList key.data.toList with h | h | h
 ·exact absurd (show cmpB L[posL L key + i].1 key < 0 by unfold cmpB; rw [h]; decide) h1
 ·exact absurd h h2
 ·show - cmpB _ _ < 0; unfold cmpB; rw [h]; decide
theorem setL_srt {L : List KV} (hs : Srt L) (key v : ByteArray) : Srt (setL L key v) := by
 unfold setL
 split
 ·rename_i h
  obtain ⟨hp, he⟩ := hasL_lt h
  have : (L.set (posL L key) (key, v)).map (·.1) = L.map (·.1) := by
   rw [List.map_set]
   apply List.ext_getElem (by simp)
   intro i h1 h2
   rw [List.getElem_set]
   split
   ·rename_i e; subst e; simp [he]
   ·rfl
  unfold Srt at hs ⊢
  have e2 : ∀ M : List KV, M.Pairwise (fun a b => cmpB a.1 b.1 < 0) ↔ (M.map (·.1)).Pairwise (fun a b => cmpB a b < 0) := fun M => by rw [List.pairwise_map]
  rw [e2, this, ← e2]; exact hs
 ·rename_i h
  unfold Srt at hs ⊢
  rw [List.pairwise_append, List.pairwise_cons]
  refine ⟨hs.sublist (List.take_sublist _ _), ⟨fun p hp => drop_ge hs h p hp, hs.sublist (List.drop_sublist _ _)⟩, ?_⟩
  intro a ha b hb
  rcases List.mem_cons.1 hb with rfl | hb
  ·exact take_lt a ha
  ·exact cmpB_trans (take_lt a ha) (drop_ge hs h b hb)
theorem srt_nil : Srt [] := List.Pairwise.nil
theorem setL_length (L : List KV) (key v : ByteArray) : (setL L key v).length = if hasL L key = true then L.length else L.length + 1 := by
 unfold setL
 have := posL_le L key
 split
 ·rename_i h; simp [h]
 ·rename_i h; simp [h]; omega
theorem setL_le (L : List KV) (key v : ByteArray) : (setL L key v).length ≤ L.length + 1 := by rw [setL_length]; split <;> omega
end Go.SX
-- SQUEEZED
