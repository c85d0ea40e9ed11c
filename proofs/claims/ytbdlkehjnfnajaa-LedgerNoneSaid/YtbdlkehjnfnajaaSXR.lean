/- SX, part R: a table of functions. -/
import Derived.Test.YtbdlkehjnfnajaaSXQ
namespace Go.SX

inductive TrF where
  | lf
  | nd (k : Nat) (v : FRow) (l r : TrF)

def TrF.get : TrF → Nat → Option FRow
  | .lf, _ => none
  | .nd k v l r, n => match Nat.beq n k with
    | true => some v
    | false => match Nat.blt n k with
      | true => l.get n
      | false => r.get n

def TrF.All (p : Nat → FRow → Prop) : TrF → Prop
  | .lf => True
  | .nd k v l r => p k v ∧ l.All p ∧ r.All p

theorem TrF.get_ok {p : Nat → FRow → Prop} : ∀ {t : TrF}, t.All p → ∀ {g r}, t.get g = some r → p g r
  | .lf, _, g, r, h => by simp [TrF.get] at h
  | .nd k v l r, ⟨h1, h2, h3⟩, g, row, h => by
    unfold TrF.get at h
    split at h
    · rename_i e
      have := Nat.eq_of_beq_eq_true e
      subst this; cases h; exact h1
    · split at h
      · exact TrF.get_ok h2 h
      · exact TrF.get_ok h3 h

def bodyOf (fn : Func) : Code := match fn.body with | some c => c | none => .skip
def rowOf (fn : Func) : FRow := ⟨fn.ntmps, fn.results.toList, bodyOf fn⟩
def funB (fn : Func) : Bool := match fn.body with | some c => staticC c && !(fn.name == "runtime.NumGoroutine") | none => false

theorem funOK {P : Program} {g : FuncId} {fn : Func} (hf : P.funcs[g]? = some fn) (hb : funB fn = true) : FunOK P g (rowOf fn) := by
  unfold funB at hb
  split at hb
  · rename_i c hc
    simp only [Bool.and_eq_true] at hb
    refine ⟨fn, hf, rfl, rfl, ?_, ?_, ?_⟩
    · simp [rowOf, bodyOf, hc]
    · unfold HasBody; rw [hf]; simp only; rw [hb.2, hc]; rfl
    · simp [rowOf, bodyOf, hc, hb.1]
  · cases hb

def noPure : Pure := fun _ _ => none
theorem noPure_ok (P : Program) : PureOK P noPure := fun h => by cases h

end Go.SX
