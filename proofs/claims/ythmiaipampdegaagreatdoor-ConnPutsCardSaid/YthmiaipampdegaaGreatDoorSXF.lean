/- SX, part F: all operations that only compute, under one name. -/
import Derived.Test.YthmiaipampdegaaGreatDoorSXE
namespace Go.SX
noncomputable section

theorem dens_iff {env : Env} : ∀ {l : List AV} {xs : List Value}, Dens env l xs ↔ l.length = xs.length ∧ ∀ (i : Nat) (v : AV), l[i]? = some v → ∃ x, xs[i]? = some x ∧ Den env v x
  | [], xs => by
    simp only [Dens]
    constructor
    · rintro rfl; simp
    · rintro ⟨h, _⟩; exact List.length_eq_zero_iff.1 h.symm
  | v :: l, xs => by
    simp only [Dens]
    constructor
    · rintro ⟨y, ys, rfl, h1, h2⟩
      obtain ⟨h3, h4⟩ := dens_iff.1 h2
      refine ⟨by simp [h3], ?_⟩
      intro i u hu
      cases i with
      | zero => simp at hu; subst hu; exact ⟨y, by simp, h1⟩
      | succ i => simp at hu; simpa using h4 i u hu
    · rintro ⟨h1, h2⟩
      cases xs with
      | nil => simp at h1
      | cons y ys =>
        refine ⟨y, ys, rfl, ?_, dens_iff.2 ⟨by simpa using h1, fun i u hu => ?_⟩⟩
        · obtain ⟨x, hx, hd⟩ := h2 0 v (by simp)
          simp at hx; subst hx; exact hd
        · have := h2 (i + 1) u (by simpa using hu)
          simpa using this

theorem Dens.length {env : Env} {l : List AV} {xs : List Value} (h : Dens env l xs) : l.length = xs.length := (dens_iff.1 h).1
theorem Dens.get {env : Env} {l : List AV} {xs : List Value} (h : Dens env l xs) {i : Nat} {v : AV} (hv : l[i]? = some v) : ∃ x, xs[i]? = some x ∧ Den env v x := (dens_iff.1 h).2 i v hv

theorem Dens.take {env : Env} {l : List AV} {xs : List Value} (h : Dens env l xs) (k : Nat) : Dens env (l.take k) (xs.take k) := by
  rw [dens_iff] at h ⊢
  refine ⟨by simp [h.1], fun i v hv => ?_⟩
  rw [List.getElem?_take] at hv ⊢
  split at hv
  · rename_i hk; rw [if_pos hk]; exact h.2 i v hv
  · cases hv

theorem Dens.drop {env : Env} {l : List AV} {xs : List Value} (h : Dens env l xs) (k : Nat) : Dens env (l.drop k) (xs.drop k) := by
  rw [dens_iff] at h ⊢
  refine ⟨by simp [h.1], fun i v hv => ?_⟩
  rw [List.getElem?_drop] at hv ⊢
  exact h.2 _ v hv

theorem Dens.append {env : Env} : ∀ {l m : List AV} {xs ys : List Value}, Dens env l xs → Dens env m ys → Dens env (l ++ m) (xs ++ ys)
  | [], _, _, _, h, k => by simp only [Dens] at h; subst h; simpa using k
  | v :: l, m, xs, ys, h, k => by
    simp only [Dens] at h
    obtain ⟨y, zs, rfl, h1, h2⟩ := h
    simp only [List.cons_append, Dens]
    exact ⟨y, zs ++ ys, rfl, h1, h2.append k⟩

def nth {α : Type} (l : List α) (n : Nat) : Option α := List.rec (motive := fun _ => Nat → Option α) (fun _ => none) (fun x _ ih n => Nat.rec (some x) (fun k _ => ih k) n) l n

theorem nth_eq {α : Type} : ∀ (l : List α) (n : Nat), nth l n = l[n]?
  | [], n => by cases n <;> rfl
  | x :: l, 0 => rfl
  | x :: l, n + 1 => (nth_eq l n).trans (by simp)

/-- The cells of a value. -/
def cellsOf : AV → List AV
  | .agg l => l
  | v => [v]

theorem cellsOf_den {env : Env} {v : AV} {x : Value} (hr : ∀ u, v ≠ .raw u) (h : Den env v x) : Dens env (cellsOf v) x.cells.toList := by
  have one : ∀ y : Value, (∀ c, y ≠ .agg c) → y.cells = #[y] := by
    intro y hy; unfold Value.cells; split
    · exact absurd rfl (hy _)
    · rfl
  cases v with
  | agg l => simp only [Den] at h; obtain ⟨xs, rfl, h2⟩ := h; simpa [cellsOf, Value.cells] using h2
  | raw u => exact absurd rfl (hr u)
  | _ =>
    have hx : ∀ c, x ≠ .agg c := by
      intro c e; subst e; simp [Den] at h
      try (first | exact h.2.elim | (obtain ⟨_, _, h⟩ := h; simp at h))
    rw [one x hx]
    simp only [cellsOf, Dens]
    exact ⟨x, [], rfl, h, rfl⟩

def splice (cs : List AV) (off : Nat) (l : List AV) : List AV := appR (takeR off cs) (appR l (dropR (off + lenR l) cs))
theorem splice_def (cs : List AV) (off : Nat) (l : List AV) : splice cs off l = cs.take off ++ (l ++ cs.drop (off + l.length)) := by simp only [splice, appR_eq, takeR_eq, dropR_eq, lenR_eq]

theorem splice_den {env : Env} {cs l : List AV} {xs ys : List Value} (h : Dens env cs xs) (k : Dens env l ys) (off : Nat) :
    Dens env (splice cs off l) (xs.take off ++ (ys ++ xs.drop (off + ys.length))) := by
  rw [splice_def]
  rw [k.length]
  exact (h.take off).append (k.append (h.drop _))

theorem foldl_get (off : Nat) : ∀ (vs : List Value) (k : Nat) (cs : Array Value), off + k + vs.length ≤ cs.size →
    ((vs.zipIdx k).foldl (fun cs (p : Value × Nat) => cs.setIfInBounds (off + p.2) p.1) cs).size = cs.size ∧
    ∀ i : Nat, ((vs.zipIdx k).foldl (fun cs (p : Value × Nat) => cs.setIfInBounds (off + p.2) p.1) cs)[i]? = if off + k ≤ i ∧ i < off + k + vs.length then vs[i - (off + k)]? else cs[i]?
  | [], k, cs, _ => by
    refine ⟨by simp, fun i => ?_⟩
    have : ¬ (off + k ≤ i ∧ i < off + k + ([] : List Value).length) := by simp
    rw [if_neg this]; simp
  | v :: vs, k, cs, h => by
    simp only [List.length_cons] at h
    obtain ⟨h1, h2⟩ := foldl_get off vs (k + 1) (cs.setIfInBounds (off + k) v) (by simp; omega)
    rw [List.zipIdx_cons, List.foldl_cons]
    refine ⟨by rw [h1]; simp, fun i => ?_⟩
    rw [h2 i]
    simp only [List.length_cons]
    by_cases h3 : i = off + k
    · subst h3
      have h4 : ¬ (off + (k + 1) ≤ off + k ∧ off + k < off + (k + 1) + vs.length) := by omega
      have h5 : off + k ≤ off + k ∧ off + k < off + k + (vs.length + 1) := by omega
      rw [if_neg h4, if_pos h5]
      simp [show off + k < cs.size by omega]
    · by_cases h4 : off + (k + 1) ≤ i ∧ i < off + (k + 1) + vs.length
      · have h5 : off + k ≤ i ∧ i < off + k + (vs.length + 1) := by omega
        have h6 : i - (off + k) = (i - (off + (k + 1))) + 1 := by omega
        rw [if_pos h4, if_pos h5, h6, List.getElem?_cons_succ]
      · have h5 : ¬ (off + k ≤ i ∧ i < off + k + (vs.length + 1)) := by omega
        rw [if_neg h4, if_neg h5, Array.getElem?_setIfInBounds_ne (by omega)]

theorem foldl_set (off : Nat) (vs : List Value) (cs : Array Value) (h : off + vs.length ≤ cs.size) :
    ((vs.zipIdx).foldl (fun cs (p : Value × Nat) => cs.setIfInBounds (off + p.2) p.1) cs).toList = cs.toList.take off ++ (vs ++ cs.toList.drop (off + vs.length)) := by
  obtain ⟨h1, h2⟩ := foldl_get off vs 0 cs (by omega)
  apply List.ext_getElem?
  intro i
  have := h2 i
  rw [← Array.getElem?_toList] at this
  rw [this]
  simp only [Nat.add_zero, List.getElem?_append, List.length_take, Array.length_toList, List.getElem?_take, List.getElem?_drop]
  have h6 : min off cs.size = off := by omega
  rw [h6]
  by_cases h3 : i < off
  · have h4 : ¬ (off ≤ i ∧ i < off + vs.length) := by omega
    rw [if_neg h4, if_pos h3, if_pos h3]; simp
  · rw [if_neg h3]
    by_cases h4 : i < off + vs.length
    · rw [if_pos ⟨by omega, h4⟩, if_pos (by omega)]
    · rw [if_neg (by omega), if_neg (by omega)]
      simp only [Array.getElem?_toList]
      congr 1; omega

/-- The parts of a struct or an array, laid into it. -/
def fillA (place : Nat → Option (Nat × Nat)) (cs : List AV) (ps : List (Nat × AV)) : Option (List AV) := List.rec (motive := fun _ => List AV → Option (List AV)) (fun cs => some cs) (fun p _ ih cs =>
    match place p.1, p.2 with
    | _, .raw _ => none
    | some (off, sz), v => match Nat.beq (lenR (cellsOf v)) sz, Nat.ble (off + sz) (lenR cs) with
      | true, true => ih (splice cs off (cellsOf v))
      | _, _ => none
    | none, _ => none) ps cs
theorem fillA_nil (place : Nat → Option (Nat × Nat)) (cs : List AV) : fillA place cs [] = some cs := rfl
theorem fillA_cons (place : Nat → Option (Nat × Nat)) (cs : List AV) (i : Nat) (v : AV) (r : List (Nat × AV)) : fillA place cs ((i, v) :: r) = (match place i, v with
    | _, .raw _ => none
    | some (off, sz), v => match Nat.beq (cellsOf v).length sz, Nat.ble (off + sz) cs.length with
      | true, true => fillA place (splice cs off (cellsOf v)) r
      | _, _ => none
    | none, _ => none) := by
  have h : fillA place cs ((i, v) :: r) = (match place i, v with
      | _, .raw _ => none
      | some (off, sz), v => match Nat.beq (lenR (cellsOf v)) sz, Nat.ble (off + sz) (lenR cs) with
        | true, true => fillA place (splice cs off (cellsOf v)) r
        | _, _ => none
      | none, _ => none) := rfl
  rw [h]
  simp only [lenR_eq]

inductive DenP (env : Env) : List (Nat × AV) → List (Nat × Value) → Prop
  | nil : DenP env [] []
  | cons {i : Nat} {v : AV} {x : Value} {l : List (Nat × AV)} {m : List (Nat × Value)} (h : Den env v x) (t : DenP env l m) : DenP env ((i, v) :: l) ((i, x) :: m)

theorem fill_ok {env : Env} {place : Nat → Option (Nat × Nat)} {ps : List (Nat × AV)} {qs : List (Nat × Value)} (h : DenP env ps qs) :
    ∀ {cs cs' : List AV} {xs : Array Value}, Dens env cs xs.toList → fillA place cs ps = some cs' → ∃ ys, Instr.fill place xs qs = some ys ∧ Dens env cs' ys.toList := by
  induction h with
  | nil => intro cs cs' xs hd hf; simp only [fillA_nil, Option.some.injEq] at hf; subst hf; exact ⟨xs, rfl, hd⟩
  | @cons i v x l m hv ht ih =>
    intro cs cs' xs hd hf
    rw [fillA_cons] at hf
    split at hf
    · cases hf
    · rename_i off sz hpl hraw
      split at hf
      · rename_i h1 h2
        have h1 := Nat.eq_of_beq_eq_true h1
        have h2 := Nat.le_of_ble_eq_true h2
        have hc := cellsOf_den (fun u e => hraw u e) hv
        have hl := hc.length
        have hl2 := hd.length
        have hx : x.cells.size = sz := by rw [← h1, hl]; simp
        have hb : ¬ off + x.cells.size > xs.size := by
          have : xs.size = cs.length := by rw [hl2]; simp
          omega
        obtain ⟨ys, h3, h4⟩ := ih (xs := x.cells.zipIdx.foldl (fun cs (p : Value × Nat) => cs.setIfInBounds (off + p.2) p.1) xs) (by
          rw [← Array.foldl_toList, Array.toList_zipIdx]
          have := foldl_set off x.cells.toList xs (by simpa using Nat.le_of_not_gt hb)
          rw [this]
          simpa using splice_den hd hc off) hf
        refine ⟨ys, ?_, h4⟩
        unfold Instr.fill
        rw [hpl]
        simp only [hx, ne_eq, not_true_eq_false, decide_false, Bool.false_or, decide_eq_true_eq]
        rw [hx] at hb
        simp only [hb, if_false]
        exact h3
      · cases hf
    · cases hf

end
end Go.SX
