/- SX, part R: a table of functions. -/
import Derived.Test.YthmiaipampdegaaGreatDoorSXQ
namespace Go.SX
noncomputable section

inductive TrF where
  | lf
  | nd (k : Nat) (v : FRow) (l r : TrF)

def TrF.get (t : TrF) (n : Nat) : Option FRow := TrF.rec (motive := fun _ => Option FRow) none (fun k v _ _ l r => Bool.rec (Bool.rec r l (Nat.blt n k)) (some v) (Nat.beq n k)) t
theorem TrF.get_nd (k : Nat) (v : FRow) (l r : TrF) (n : Nat) : (TrF.nd k v l r).get n = (match Nat.beq n k with
    | true => some v
    | false => match Nat.blt n k with
      | true => l.get n
      | false => r.get n) := by
  show (Bool.rec (Bool.rec (r.get n) (l.get n) (Nat.blt n k)) (some v) (Nat.beq n k) : Option FRow) = _
  cases Nat.beq n k <;> cases Nat.blt n k <;> rfl

def TrF.All (p : Nat → FRow → Prop) : TrF → Prop
  | .lf => True
  | .nd k v l r => p k v ∧ l.All p ∧ r.All p

theorem TrF.get_ok {p : Nat → FRow → Prop} : ∀ {t : TrF}, t.All p → ∀ {g r}, t.get g = some r → p g r
  | .lf, _, g, r, h => by cases h
  | .nd k v l r, ⟨h1, h2, h3⟩, g, row, h => by
    rw [TrF.get_nd] at h
    split at h
    · rename_i e
      have := Nat.eq_of_beq_eq_true e
      subst this; cases h; exact h1
    · split at h
      · exact TrF.get_ok h2 h
      · exact TrF.get_ok h3 h

def bodyOf (fn : Func) : Code := match fn.body with | some c => c | none => .skip
def rowOf (fn : Func) : FRow := ⟨fn.ntmps, fn.results.toList, bodyOf fn⟩
def funB (fn : Func) : Bool := match fn.body with | some c => staticC c && !(fn.name == "runtime.NumGoroutine") | none => false

theorem funOK {P : Program} {g : FuncId} {fn : Func} (hf : P.funcs[g]? = some fn) (hb : funB fn = true) : FunOK P g (rowOf fn) := by
  unfold funB at hb
  split at hb
  · rename_i c hc
    simp only [Bool.and_eq_true] at hb
    refine ⟨fn, hf, rfl, rfl, ?_, ?_, ?_⟩
    · simp [rowOf, bodyOf, hc]
    · unfold HasBody; rw [hf]; simp only; rw [hb.2, hc]; rfl
    · simp [rowOf, bodyOf, hc, hb.1]
  · cases hb

def noPure : Pure := fun _ _ => none
theorem noPure_ok (P : Program) : PureOK P noPure := fun h => by cases h

end
end Go.SX
