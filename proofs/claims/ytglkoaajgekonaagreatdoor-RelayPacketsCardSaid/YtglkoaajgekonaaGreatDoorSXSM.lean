/- SX, part SM: texts among the arguments take at most what a process reaches. -/
import Derived.Test.YtglkoaajgekonaaGreatDoorSXZ
import Derived.SizedLaws
namespace Go.SX
noncomputable section
open Go.ChangeShapes Go.WideShapes Go.ChangeAt Go.RowKit
theorem mapM_at {α β : Type} {f : α → Option β} : ∀ {l : List α} {r : List β} {i : Nat} {x : α}, l.mapM f = some r → l[i]? = some x → ∃ y, f x = some y ∧ r[i]? = some y
 | [], _, _, _, _, h => by simp at h
 | a :: l, r, i, x, hm, hi => by
  rw [List.mapM_cons] at hm
  cases ha : f a with
  | none => rw [ha] at hm; cases hm
  | some y =>
   rw [ha] at hm
   cases hl : l.mapM f with
   | none => simp [hl] at hm
   | some ys =>
    simp only [hl, Option.bind_eq_bind, Option.bind_some, Option.pure_def, Option.some.injEq] at hm
    subst hm
    cases i with
    | zero => simp only [List.getElem?_cons_zero, Option.some.injEq] at hi; subst hi; exact ⟨y, ha, rfl⟩
    | succ i => obtain ⟨z, h1, h2⟩ := mapM_at hl (by simpa using hi); exact ⟨z, h1, by simpa using h2⟩
def smallV (v : Value) : Prop := ∀ s : ByteArray, Value.string s ∈ v.cells.toList → s.size ≤ reachBytes
def smallA : AV → Prop
 | .str s => s.size ≤ reachBytes
 | .agg l => ∀ s : ByteArray, AV.str s ∈ l → s.size ≤ reachBytes
 | _ => True
def leafB (P : Program) (t : TypeId) : Bool := match P.underlying t with
 | some (.int _) => true
 | some .string => true
 | some .bool => true
 | _ => false
def flatS (P : Program) (t : TypeId) : Bool := match P.underlying t with
 | some (.struct fs) => (List.range (P.cellsOf t)).all fun j => (List.range fs.size).any fun i => match fs[i]? with
  | some f => Nat.beq f.offset j && (Nat.beq (P.cellsOf f.type) 1 && leafB P f.type)
  | none => false
 | _ => leafB P t
theorem trod_leaf {H : Type} {enc : TypeId × Value → H} {P : Program} {w : World} {base : Nat} {sp : Nat → Bool} {held : Bool} {fuel : Nat} {t : TypeId} {s : ByteArray} {d : DataW H} {p : List MemPlace} (hl : leafB P t = true)
  (h : DataW.trod enc P w base sp held fuel t [.string s] = some (d, p)) : s.size ∈ d.weights P t := by
 cases fuel with
 | zero => simp [DataW.trod] at h
 | succ k =>
  unfold leafB at hl
  unfold DataW.trod at h
  split at hl
  ·rename_i hu; simp [hu] at h
  ·rename_i hu
   simp only [hu] at h
   split at h
   ·cases h; simp [DataW.weights]
   ·cases h
  ·rename_i hu; simp [hu] at h
  ·cases hl
theorem trod_small {H : Type} {enc : TypeId × Value → H} {P : Program} {w : World} {base : Nat} {sp : Nat → Bool} {held : Bool} {t : TypeId} {v : Value} {d : DataW H} {p : List MemPlace} (hl : flatS P t = true)
  (h : DataW.Trod enc P w base sp held t v d p) (hw : ∀ n ∈ d.weights P t, n ≤ reachBytes) : smallV v := by
 intro s hs
 obtain ⟨fuel, h⟩ := h
 apply hw
 generalize v.cells.toList = cs at h hs
 unfold flatS at hl
 split at hl
 ·rename_i fs hu
  cases fuel with
  | zero => simp [DataW.trod] at h
  | succ k =>
   unfold DataW.trod at h
   simp only [hu] at h
   split at h
   ·rename_i hlen
    obtain ⟨j, hj⟩ := List.mem_iff_getElem?.1 hs
    have hjl : j < cs.length := by
     rcases Nat.lt_or_ge j cs.length with q | q
     ·exact q
     ·rw [List.getElem?_eq_none q] at hj; cases hj
    have := List.all_eq_true.1 hl j (List.mem_range.2 (hlen ▸ hjl))
    obtain ⟨i, hi, hb⟩ := List.any_eq_true.1 this
    split at hb
    ·rename_i f hf
     simp only [Bool.and_eq_true] at hb
     obtain ⟨b1, b2, b3⟩ := hb
     have b1 := Nat.eq_of_beq_eq_true b1
     have b2 := Nat.eq_of_beq_eq_true b2
     cases hm : fs.toList.mapM fun f => DataW.trod enc P w base sp held k f.type ((cs.drop f.offset).take (P.cellsOf f.type)) with
     | none => rw [hm] at h; cases h
     | some xs =>
      rw [hm] at h
      simp only [Option.map_some, Option.some.injEq, Prod.mk.injEq] at h
      obtain ⟨rfl, _⟩ := h
      obtain ⟨y, e1, e2⟩ := mapM_at hm (i := i) (x := f) (by simpa using hf)
      rw [b1, b2] at e1
      have : (cs.drop j).take 1 = [.string s] := by
       rw [List.drop_eq_getElem_cons hjl]
       rw [List.getElem?_eq_getElem hjl] at hj
       simp [Option.some.inj hj]
      rw [this] at e1
      have hmem := trod_leaf b3 (d := y.1) (p := y.2) e1
      simp only [DataW.weights, hu]
      exact DataW.weights_mem_each (j := i) (t := f.type) (d := y.1) (by simp [hf]) (by simp [e2]) _ hmem
    ·cases hb
   ·cases h
 ·rename_i hns
  have : cs = [.string s] := by
   cases fuel with
   | zero => simp [DataW.trod] at h
   | succ k =>
    unfold leafB at hl
    unfold DataW.trod at h
    split at hl
    ·rename_i hu
     simp only [hu] at h
     cases cs with
     | nil => cases hs
     | cons c l =>
      cases l with
      | cons _ _ => cases c <;> simp at h
      | nil => simp only [List.mem_singleton] at hs; rw [hs]
    ·rename_i hu
     simp only [hu] at h
     cases cs with
     | nil => cases hs
     | cons c l =>
      cases l with
      | cons _ _ => cases c <;> simp at h
      | nil => simp only [List.mem_singleton] at hs; rw [hs]
    ·rename_i hu
     simp only [hu] at h
     cases cs with
     | nil => cases hs
     | cons c l =>
      cases l with
      | cons _ _ => cases c <;> simp at h
      | nil => simp only [List.mem_singleton] at hs; rw [hs]
    ·cases hl
  subst this
  exact trod_leaf hl h
theorem dens_str {env : Env} : ∀ {l : List AV} {xs : List Value} {s : ByteArray}, Dens env l xs → AV.str s ∈ l → Value.string s ∈ xs
 | [], _, _, _, h => by cases h
 | a :: l, xs, s, hd, h => by
  simp only [Dens] at hd
  obtain ⟨y, ys, rfl, h1, h2⟩ := hd
  rcases List.mem_cons.1 h with rfl | h
  ·simp only [Den] at h1; subst h1; exact List.mem_cons_self
  ·exact List.mem_cons_of_mem _ (dens_str h2 h)
theorem small_den {env : Env} {a : AV} {v : Value} (hd : Den env a v) (h : smallV v) : smallA a := by
 cases a <;> try trivial
 ·simp only [Den] at hd; subst hd
  exact h _ (by simp [Value.cells])
 ·simp only [Den] at hd
  obtain ⟨xs, rfl, h2⟩ := hd
  intro s hs
  exact h s (by simpa [Value.cells] using dens_str h2 hs)
end
end Go.SX
-- SQUEEZED
