/- SX, part ZT: arguments of plain types: numbers, texts, truths, and structs of them. -/
import Derived.Test.YthmiaipampdegaaGreatDoorSXZ
namespace Go.SX
noncomputable section
open Go.ChangeShapes Go.WideShapes Go.ChangeAt Go.RowKit

inductive LfK where
  | i (k : IntKind)
  | s
  | b
def LfK.ok : LfK → AV → Prop
  | .i k, v => ∃ x : Int, v = .int k x ∧ k.has x
  | .s, v => ∃ s : ByteArray, v = .str s ∧ (s.size : Int) ≤ IntKind.i64.max
  | .b, v => ∃ b : Bool, v = .bool b
def leafK (P : Program) (t : TypeId) : Option LfK := match P.underlying t with
  | some (.int k) => some (.i k)
  | some .string => some .s
  | some .bool => some .b
  | _ => none
inductive TyK where
  | one (l : LfK)
  | agg (l : List LfK)
def leavesK (P : Program) : List TypeId → Option (List LfK)
  | [] => some []
  | t :: ts => match leafK P t, leavesK P ts with
    | some k, some ks => some (k :: ks)
    | _, _ => none
def rowK (P : Program) (t : TypeId) : Option TyK := match P.cellTypes P.depth t with
  | some ts => match Nat.beq (P.cellsOf t) ts.length, leavesK P ts with
    | true, some l => some (.agg l)
    | _, _ => none
  | none => none
def kindK (P : Program) (t : TypeId) : Option TyK := match P.underlying t with
  | some (.struct _) => rowK P t
  | some (.array _ _) => rowK P t
  | _ => match leafK P t with
    | some l => some (.one l)
    | none => none
def kindsK (P : Program) : List TypeId → Option (List TyK)
  | [] => some []
  | t :: ts => match kindK P t, kindsK P ts with
    | some k, some ks => some (k :: ks)
    | _, _ => none
def okL2 : List LfK → List AV → Prop
  | [], [] => True
  | k :: ks, v :: vs => k.ok v ∧ okL2 ks vs
  | _, _ => False
def TyK.ok : TyK → AV → Prop
  | .one l, v => l.ok v
  | .agg ls, v => ∃ vs, v = .agg vs ∧ okL2 ls vs
def okT2 : List TyK → List AV → Prop
  | [], [] => True
  | k :: ks, v :: vs => k.ok v ∧ okT2 ks vs
  | _, _ => False

theorem okT2_cons {k : TyK} {ks : List TyK} : ∀ {vs : List AV}, okT2 (k :: ks) vs → ∃ v vs', vs = v :: vs' ∧ k.ok v ∧ okT2 ks vs'
  | [], h => h.elim
  | v :: vs, h => ⟨v, vs, rfl, h.1, h.2⟩
theorem okT2_nil : ∀ {vs : List AV}, okT2 [] vs → vs = []
  | [], _ => rfl
  | _ :: _, h => h.elim
theorem okL2_cons {k : LfK} {ks : List LfK} : ∀ {vs : List AV}, okL2 (k :: ks) vs → ∃ v vs', vs = v :: vs' ∧ k.ok v ∧ okL2 ks vs'
  | [], h => h.elim
  | v :: vs, h => ⟨v, vs, rfl, h.1, h.2⟩
theorem okL2_nil : ∀ {vs : List AV}, okL2 [] vs → vs = []
  | [], _ => rfl
  | _ :: _, h => h.elim
theorem okL2_i {k : IntKind} {ks : List LfK} {vs : List AV} (h : okL2 (.i k :: ks) vs) : ∃ (x : Int) (vs' : List AV), vs = .int k x :: vs' ∧ k.has x ∧ okL2 ks vs' := by
  obtain ⟨v, vs', rfl, ⟨x, rfl, hx⟩, h2⟩ := okL2_cons h
  exact ⟨x, vs', rfl, hx, h2⟩
theorem okL2_s {ks : List LfK} {vs : List AV} (h : okL2 (.s :: ks) vs) : ∃ (s : ByteArray) (vs' : List AV), vs = .str s :: vs' ∧ (s.size : Int) ≤ IntKind.i64.max ∧ okL2 ks vs' := by
  obtain ⟨v, vs', rfl, ⟨x, rfl, hx⟩, h2⟩ := okL2_cons h
  exact ⟨x, vs', rfl, hx, h2⟩
theorem okT2_agg {ls : List LfK} {ks : List TyK} {vs : List AV} (h : okT2 (.agg ls :: ks) vs) : ∃ (as vs' : List AV), vs = .agg as :: vs' ∧ okL2 ls as ∧ okT2 ks vs' := by
  obtain ⟨v, vs', rfl, ⟨as, rfl, hx⟩, h2⟩ := okT2_cons h
  exact ⟨as, vs', rfl, hx, h2⟩
theorem okT2_one {l : LfK} {ks : List TyK} {vs : List AV} (h : okT2 (.one l :: ks) vs) : ∃ (v : AV) (vs' : List AV), vs = v :: vs' ∧ l.ok v ∧ okT2 ks vs' := by
  obtain ⟨v, vs', rfl, hx, h2⟩ := okT2_cons h
  exact ⟨v, vs', rfl, hx, h2⟩

theorem leaf_typed {P : Program} {w : World} {r : Reach} {base : Nat} {t : TypeId} {v : Value} {k : LfK} (h : Cell.okWide P w r base t v) (hk : leafK P t = some k) (env : Env) : ∃ a, Den env a v ∧ k.ok a := by
  unfold leafK at hk
  unfold Cell.okWide Cell.ok at h
  split at hk
  · rename_i k0 hu
    rw [hu] at h
    cases hk
    cases v <;> first | exact h.elim | skip
    obtain ⟨rfl, h2⟩ := h
    exact ⟨.int _ _, (by simp only [Den]), _, rfl, h2⟩
  · rename_i hu
    rw [hu] at h
    cases hk
    cases v <;> first | exact h.elim | skip
    exact ⟨.str _, (by simp only [Den]), _, rfl, h⟩
  · rename_i hu
    rw [hu] at h
    cases hk
    cases v <;> first | exact h.elim | skip
    exact ⟨.bool _, (by simp only [Den]; rfl), _, rfl⟩
  · cases hk

theorem leaves_typed {P : Program} {w : World} {r : Reach} {base : Nat} (env : Env) : ∀ {ts : List TypeId} {ks : List LfK} {vs : List Value}, leavesK P ts = some ks → vs.length = ts.length → (∀ (j : Nat) v t, vs[j]? = some v → ts[j]? = some t → Cell.okWide P w r base t v) → ∃ as, Dens env as vs ∧ okL2 ks as
  | [], ks, [], h, _, _ => by simp only [leavesK, Option.some.injEq] at h; subst h; exact ⟨[], by simp [Dens], trivial⟩
  | [], _, _ :: _, _, h, _ => by simp at h
  | _ :: _, _, [], _, h, _ => by simp at h
  | t :: ts, ks, v :: vs, h, hl, hok => by
    simp only [leavesK] at h
    split at h
    · rename_i k ks' h1 h2
      cases h
      obtain ⟨a, d1, o1⟩ := leaf_typed (hok 0 v t rfl rfl) h1 env
      obtain ⟨as, d2, o2⟩ := leaves_typed env h2 (by simpa using hl) (fun j v t h1 h2 => hok (j + 1) v t (by simpa using h1) (by simpa using h2))
      exact ⟨a :: as, by simp only [Dens]; exact ⟨v, vs, rfl, d1, d2⟩, o1, o2⟩
    · cases h

theorem row_typed {P : Program} {w : World} {r : Reach} {base : Nat} {t : TypeId} {cs : Array Value} {k : TyK} (env : Env) (hsz : cs.size = P.cellsOf t) (hrow : Row.okWide P w r base t cs) (hk : rowK P t = some k) : ∃ a, Den env a (.agg cs) ∧ k.ok a := by
  unfold rowK at hk
  obtain ⟨ts, h1, _, h3⟩ := hrow
  rw [h1] at hk
  simp only at hk
  split at hk
  · rename_i l hb hl
    cases hk
    have hb := Nat.eq_of_beq_eq_true hb
    have hlen : cs.toList.length = ts.length := by simp [hsz, hb]
    obtain ⟨as, d, o⟩ := leaves_typed (w := w) (r := r) (base := base) env hl hlen (fun j v t hj ht => by
      obtain ⟨u, hu, hok⟩ := h3 j v (by simpa using hj)
      have hjl : j < ts.length := by
        rcases Nat.lt_or_ge j ts.length with q | q
        · exact q
        · rw [List.getElem?_eq_none q] at ht; cases ht
      rw [Nat.mod_eq_of_lt hjl, ht] at hu
      cases hu
      exact hok)
    exact ⟨.agg as, by simp only [Den]; exact ⟨cs, rfl, d⟩, as, rfl, o⟩
  · cases hk

theorem val_typed {P : Program} {w : World} {r : Reach} {base : Nat} {t : TypeId} {v : Value} {k : TyK} (env : Env) (h : Value.okWide P w r base t v) (hk : kindK P t = some k) : ∃ a, Den env a v ∧ k.ok a := by
  unfold Value.okWide at h
  unfold kindK at hk
  cases hu : P.underlying t with
  | none => rw [hu] at h hk; simp [leafK, hu] at hk
  | some d =>
    rw [hu] at h hk
    cases d with
    | struct fs => obtain ⟨cs, rfl, h2, h3⟩ := h; exact row_typed env h2 h3 hk
    | array m e => obtain ⟨cs, rfl, h2, h3⟩ := h; exact row_typed env h2 h3 hk
    | _ =>
      simp only at hk
      split at hk
      · rename_i l hl
        cases hk
        obtain ⟨a, d1, o1⟩ := leaf_typed h hl env
        exact ⟨a, d1, o1⟩
      · cases hk

theorem args_typed {P : Program} {w : World} {r : Reach} {base : Nat} (env : Env) : ∀ {ts : List TypeId} {ks : List TyK} {vs : List Value}, kindsK P ts = some ks → vs.length = ts.length → (∀ (j : Nat) t v, ts[j]? = some t → vs[j]? = some v → Value.okWide P w r base t v) → ∃ as, Dens env as vs ∧ okT2 ks as
  | [], ks, [], h, _, _ => by simp only [kindsK, Option.some.injEq] at h; subst h; exact ⟨[], by simp [Dens], trivial⟩
  | [], _, _ :: _, _, h, _ => by simp at h
  | _ :: _, _, [], _, h, _ => by simp at h
  | t :: ts, ks, v :: vs, h, hl, hok => by
    simp only [kindsK] at h
    split at h
    · rename_i k ks' h1 h2
      cases h
      obtain ⟨a, d1, o1⟩ := val_typed env (hok 0 t v rfl rfl) h1
      obtain ⟨as, d2, o2⟩ := args_typed env h2 (by simpa using hl) (fun j t v h1 h2 => hok (j + 1) t v (by simpa using h1) (by simpa using h2))
      exact ⟨a :: as, by simp only [Dens]; exact ⟨v, vs, rfl, d1, d2⟩, o1, o2⟩
    · cases h

/-- A law over plain arguments that answers true, and that writes nothing that was there. -/
theorem Ctr.lawT {P : Program} {f : FuncId} {ts : List TypeId} {ks : List TyK} (hks : kindsK P ts = some ks) (h : ∀ as, okT2 ks as → ∃ n', Ctr P f as [] [] 0 n' (.bool true) [])
    {W : World} {base : Nat} {args : Array Value} (hlen : args.toList.length = ts.length) (hok : ∀ (j : Nat) t v, ts[j]? = some t → args.toList[j]? = some v → Value.okWide P W .any base t v) :
    Calls P f args W fun e W' => e = .returned (.bool true) ∧ Below W.heap.size W W' := by
  obtain ⟨as, d1, o1⟩ := args_typed (fun _ => none) hks hlen hok
  obtain ⟨n', _, _, _, spec⟩ := h as o1
  refine (spec _ (fun _ _ => False) W args d1 ⟨fun hl => by simp [lookN] at hl, fun hl => by simp [lookN] at hl⟩ ?_).mono ?_
  · intro k _ _; rfl
  · rintro e W' ⟨env', F', x, rfl, t, hd⟩
    simp only [Den] at hd
    subst hd
    refine ⟨rfl, t.frame.os, t.frame.tape, t.frame.output, t.frame.size, fun k hk => t.frame.block k hk ?_⟩
    rintro ⟨h0, r0, hl, _⟩
    simp [lookN] at hl

/-- What is handed plain values and gives one: its inner handles are nobody's. -/
theorem Ctr.shut {P : Program} {g : FuncId} {args : List AV} {k : Nat} {v : AV} (c : Ctr P g args [] [] 0 k v []) (ha : okL 0 args = true) (hv : okA 0 v = true) : Ctr P g args [] [] 0 0 v [] := by
  obtain ⟨hb, _, hd, spec⟩ := c
  refine ⟨hb, Nat.le_refl _, hd, ?_⟩
  intro env F w xs hx hs _
  have hx0 : Dens (fun _ => none) args xs.toList := dens_ok (n := 0) (fun k hk => absurd hk (Nat.not_lt_zero k)) ha hx
  refine (spec (fun _ => none) (fun _ _ => False) w xs hx0 ⟨fun hl => by simp [lookN] at hl, fun hl => by simp [lookN] at hl⟩ (fun _ _ _ => rfl)).mono ?_
  rintro e w' ⟨env', F', x, rfl, t, hd⟩
  refine ⟨env, fun _ _ => False, x, rfl, ⟨Env.le.refl _, fun _ _ => rfl, ⟨fun hl => by simp [lookN] at hl, fun hl => by simp [lookN] at hl⟩, fun hl => by simp [lookN] at hl, ?_⟩, den_ok (n := 0) (fun k hk => absurd hk (Nat.not_lt_zero k)) hv hd⟩
  have hf := t.frame
  have : Owned ([] : Heap) F = Owned ([] : Heap) (fun _ _ => False) := by
    funext b
    simp [Owned, lookN]
  rw [this]; exact hf

end
end Go.SX
