/- SX, part Z: from a contract to what a row asks. -/
import Derived.Test.YthmiaipampdegaaGreatDoorSXX
import Derived.ProofKit
import Derived.Carry
import Derived.OpenShut
namespace Go.SX
noncomputable section
open Go.ChangeShapes Go.WideShapes Go.ChangeAt Go.RowKit

theorem cell_leaf {P : Program} {w : World} {r : Reach} {base : Nat} {t : TypeId} {v : Value} (h : Cell.okWide P w r base t v) : leafV v := by
  cases v <;> first | trivial | skip
  all_goals
    unfold Cell.okWide Cell.ok at h
    cases hu : P.underlying t with
    | none => rw [hu] at h; exact h.elim
    | some d => rw [hu] at h; cases d <;> exact h.elim

/-- Handles, one behind the other. -/
def hdsFrom : Nat → Nat → List AV
  | _, 0 => []
  | i, n + 1 => .hd i :: hdsFrom (i + 1) n

theorem hds_den {env : Env} : ∀ {cs : List Value} {i : Nat}, (∀ j x, cs[j]? = some x → env (i + j) = some x) → (∀ x ∈ cs, leafV x) → Dens env (hdsFrom i cs.length) cs
  | [], i, _, _ => by simp [hdsFrom, Dens]
  | c :: cs, i, h, hl => by
    simp only [List.length_cons, hdsFrom, Dens, Den]
    exact ⟨c, cs, rfl, ⟨by simpa using h 0 c (by simp), hl c (by simp)⟩, hds_den (fun j x hx => by rw [show i + 1 + j = i + (j + 1) by omega]; exact h (j + 1) x (by simpa using hx)) (fun x hx => hl x (by simp [hx]))⟩

/-- Opaque arguments: some of so many cells, some of one. -/
def argsA : Nat → List (Option Nat) → List AV
  | _, [] => []
  | i, none :: l => .hd i :: argsA (i + 1) l
  | i, some n :: l => .agg (hdsFrom i n) :: argsA (i + n) l

def argsN : List (Option Nat) → Nat
  | [] => 0
  | none :: l => 1 + argsN l
  | some n :: l => n + argsN l

/-- What an argument of a type is. -/
def shapeOf (P : Program) (t : TypeId) : Option Nat :=
  match P.underlying t with
  | some (.struct _) | some (.array _ _) => some (P.cellsOf t)
  | _ => none

def cellsIn : Value → List Value
  | .agg cs => cs.toList
  | v => [v]

theorem args_den {P : Program} {W : World} {base : Nat} : ∀ {ts : List TypeId} {vs : List Value} {i : Nat} {env : Env}, vs.length = ts.length → (∀ (j : Nat) t v, ts[j]? = some t → vs[j]? = some v → Value.okWide P W .any base t v) →
    (∀ j x, (vs.flatMap cellsIn)[j]? = some x → env (i + j) = some x) → Dens env (argsA i (ts.map (shapeOf P))) vs ∧ (vs.flatMap cellsIn).length = argsN (ts.map (shapeOf P))
  | [], [], i, env, _, _, _ => by simp [argsA, argsN, Dens]
  | [], _ :: _, _, _, h, _, _ => by simp at h
  | _ :: _, [], _, _, h, _, _ => by simp at h
  | t :: ts, v :: vs, i, env, hl, hok, he => by
    have h0 := hok 0 t v rfl rfl
    have hrest : ∀ (j : Nat) t' v', ts[j]? = some t' → vs[j]? = some v' → Value.okWide P W .any base t' v' := fun j t' v' h1 h2 => hok (j + 1) t' v' (by simpa using h1) (by simpa using h2)
    have agg : ∀ {cs : Array Value}, v = .agg cs → cs.size = P.cellsOf t → Row.okWide P W .any base t cs → shapeOf P t = some (P.cellsOf t) →
        Dens env (argsA i ((t :: ts).map (shapeOf P))) (v :: vs) ∧ ((v :: vs).flatMap cellsIn).length = argsN ((t :: ts).map (shapeOf P)) := by
      intro cs hv hsz hrow hs
      subst hv
      have hleaf : ∀ x ∈ cs.toList, leafV x := by
        intro x hx
        obtain ⟨ts', _, _, h3⟩ := hrow
        obtain ⟨j, hj⟩ := List.getElem?_of_mem hx
        obtain ⟨u, _, hu⟩ := h3 j x (by simpa using hj)
        exact cell_leaf hu
      have hlen : cs.toList.length = P.cellsOf t := by simpa using hsz
      have hd := hds_den (env := env) (cs := cs.toList) (i := i) (fun j x hx => he j x (by
        simp only [List.flatMap_cons, cellsIn]
        rw [List.getElem?_append_left (by
          rcases Nat.lt_or_ge j cs.toList.length with q | q
          · exact q
          · rw [List.getElem?_eq_none q] at hx; cases hx)]
        exact hx)) hleaf
      rw [hlen] at hd
      obtain ⟨r1, r2⟩ := args_den (P := P) (W := W) (base := base) (ts := ts) (vs := vs) (i := i + P.cellsOf t) (env := env) (by simpa using hl) hrest (fun j x hx => by
        rw [Nat.add_assoc]
        refine he (P.cellsOf t + j) x ?_
        simp only [List.flatMap_cons, cellsIn]
        rw [List.getElem?_append_right (by omega), hlen, Nat.add_sub_cancel_left]
        exact hx)
      refine ⟨?_, ?_⟩
      · simp only [List.map_cons, hs, argsA, Dens]
        exact ⟨_, _, rfl, by simp only [Den]; exact ⟨cs, rfl, hd⟩, r1⟩
      · simp only [List.map_cons, hs, argsN, List.flatMap_cons, cellsIn, List.length_append]
        rw [hlen, r2]
    have one : Cell.okWide P W .any base t v → shapeOf P t = none → Dens env (argsA i ((t :: ts).map (shapeOf P))) (v :: vs) ∧ ((v :: vs).flatMap cellsIn).length = argsN ((t :: ts).map (shapeOf P)) := by
      intro hc hs
      have hleaf := cell_leaf hc
      have hci : cellsIn v = [v] := by cases v <;> first | rfl | exact hleaf.elim
      obtain ⟨r1, r2⟩ := args_den (P := P) (W := W) (base := base) (ts := ts) (vs := vs) (i := i + 1) (env := env) (by simpa using hl) hrest (fun j x hx => by
        rw [Nat.add_assoc]
        refine he (1 + j) x ?_
        simp only [List.flatMap_cons, hci]
        rw [List.getElem?_append_right (by simp)]
        simpa using hx)
      refine ⟨?_, ?_⟩
      · simp only [List.map_cons, hs, argsA, Dens]
        exact ⟨_, _, rfl, by simp only [Den]; exact ⟨by simpa using he 0 v (by simp [hci]), hleaf⟩, r1⟩
      · simp only [List.map_cons, hs, argsN, List.flatMap_cons, hci, List.length_append, List.length_singleton]
        rw [r2]
    unfold Value.okWide at h0
    cases hu : P.underlying t with
    | none => rw [hu] at h0; exact one h0 (by simp [shapeOf, hu])
    | some d =>
      rw [hu] at h0
      cases d with
      | struct fs => obtain ⟨cs, h1, h2, h3⟩ := h0; exact agg h1 h2 h3 (by simp [shapeOf, hu])
      | array m e => obtain ⟨cs, h1, h2, h3⟩ := h0; exact agg h1 h2 h3 (by simp [shapeOf, hu])
      | _ => exact one h0 (by simp [shapeOf, hu])

/-- A law that answers true whatever its arguments are, and that writes nothing that was there. -/
theorem Ctr.law {P : Program} {f : FuncId} {ts : List TypeId} {n n' : Nat} {sh : List (Option Nat)} (hsh : ts.map (shapeOf P) = sh) (hn : argsN sh = n) (h : Ctr P f (argsA 0 sh) [] [] n n' (.bool true) [])
    {W : World} {base : Nat} {args : Array Value} (hlen : args.toList.length = ts.length) (hok : ∀ (j : Nat) t v, ts[j]? = some t → args.toList[j]? = some v → Value.okWide P W .any base t v) :
    Calls P f args W fun e W' => e = .returned (.bool true) ∧ Below W.heap.size W W' := by
  subst hsh
  obtain ⟨d1, d2⟩ := args_den (P := P) (W := W) (base := base) (ts := ts) (vs := args.toList) (i := 0) (env := fun k => (args.toList.flatMap cellsIn)[k]?) hlen hok (fun j x hx => by rw [Nat.zero_add]; exact hx)
  obtain ⟨_, _, _, spec⟩ := h
  refine (spec _ (fun _ _ => False) W args d1 ⟨fun hl => by simp [lookN, lookC] at hl, fun hl => by simp [lookN, lookC] at hl⟩ ?_).mono ?_
  · intro k hk _
    rw [← hn, ← d2] at hk
    exact List.getElem?_eq_none hk
  · rintro e W' ⟨env', F', x, rfl, t, hd⟩
    simp only [Den] at hd
    subst hd
    refine ⟨rfl, t.frame.os, t.frame.tape, t.frame.output, t.frame.size, fun k hk => t.frame.block k hk ?_⟩
    rintro ⟨h0, r0, hl, _⟩
    simp [lookN, lookC] at hl

theorem Below.trodAll {H : Type} {enc : TypeId × Value → H} {P : Program} (hl : laidOutB P = true) {W W' : World} (hb : Below W.heap.size W W') : ∀ {ts : List TypeId} {vs : List Value} {ds : List (DataW H)} {ps : List MemPlace},
    (ts.all fun t => P.readableRec t && decide (t < P.types.size)) = true → DataW.TrodAll enc P W 0 (fun _ => true) true ts vs ds ps → (∀ x ∈ ps, x.block < W.heap.size) →
    DataW.TrodAll enc P W' 0 (fun b => decide (b < W.heap.size)) true ts vs ds ps
  | [], vs, ds, ps, _, h, _ => by
    obtain ⟨rfl, rfl, rfl⟩ := trodAll_nil h
    exact trodAll_mk0
  | t :: ts, vs, ds, ps, ht, h, hlt => by
    obtain ⟨v, vs', d, ds', p, q, rfl, rfl, rfl, h1, h2⟩ := trodAll_cons h
    simp only [List.all_cons, Bool.and_eq_true, decide_eq_true_eq] at ht
    exact trodAll_cons_mk (Below.trod hl ht.1.1 ht.1.2 h1 hb (fun x hx => hlt x (by simp [hx]))) (Below.trodAll hl hb ht.2 h2 (fun x hx => hlt x (by simp [hx])))

theorem trodAll_len {H : Type} {enc : TypeId × Value → H} {P : Program} {W : World} {base : Nat} {sp : Nat → Bool} {hd : Bool} : ∀ {ts : List TypeId} {vs : List Value} {ds : List (DataW H)} {ps : List MemPlace}, DataW.TrodAll enc P W base sp hd ts vs ds ps → vs.length = ts.length ∧ ds.length = ts.length
  | [], vs, ds, ps, h => by obtain ⟨rfl, rfl, rfl⟩ := trodAll_nil h; exact ⟨rfl, rfl⟩
  | t :: ts, vs, ds, ps, h => by
    obtain ⟨v, vs', d, ds', p, q, rfl, rfl, rfl, h1, h2⟩ := trodAll_cons h
    obtain ⟨e1, e2⟩ := trodAll_len h2
    exact ⟨by simp [e1], by simp [e2]⟩

theorem shut_true {H : Type} {enc : TypeId × Value → H} {P : Program} {W : World} {base : Nat} {sp : Nat → Bool} {hd : Bool} {t : TypeId} (ht : P.underlying t = some .bool) : DataW.Trod enc P W base sp hd t (.bool true) (.lit (.bool true)) [] :=
  ⟨1, by simp [DataW.trod, ht, Value.cells]⟩

/-- Zero values of some types: arguments for a witness. -/
def zerosOf (P : Program) (ts : Array TypeId) : Array Value := ts.map fun t => ((P.info? t).bind (·.zero)).getD .nilIface

/-- 'post' of a law: true; nothing that was there has turned. -/
theorem law_post {H : Type} {enc : TypeId × Value → H} {P : Program} {fn : Func} {s : ChangeSpec} {apart : Bool} {W W' : World} {args : Array Value} {ds gs : List (DataW H)} {before : List MemPlace} {t : TypeId}
    (hl : laidOutB P = true) (hp : (fn.params.toList.all fun t => P.readableRec t && decide (t < P.types.size)) = true) (hr : fn.resultTypes = #[t]) (ht : P.underlying t = some .bool) (hv : s.vars = [])
    (hs : ∀ l : List (DataW H), l.length = fn.params.toList.length → (s.fn H l).results = [.lit (.bool true)] ∧ (s.fn H l).args = l ∧ (s.fn H l).vars = [])
    (hW : DataW.Whole enc P fn.params.toList s.vars apart W args.toList ds gs before) (hb : Below W.heap.size W W') : s.post enc P fn apart true false false W args (.bool true) W' := by
  have hW' := hW
  obtain ⟨p, q, hA, hV, rfl, hfz, hnd⟩ := hW
  rw [hv] at hV
  obtain ⟨rfl, rfl⟩ := trodVars_none hV
  have hlt : ∀ x ∈ p, x.block < W.heap.size := fun x hx => by simpa using hW'.lt x (by simpa using hx)
  obtain ⟨_, hdl⟩ := trodAll_len hA
  obtain ⟨s1, s2, s3⟩ := hs (ds ++ []) (by simpa using hdl)
  refine ⟨ds, [], _, [], p, [], hW', ?_, ?_, ?_, hb.frame _, fun h => by cases h⟩
  · rw [s1, hr]
    exact trodAll_mk1 (shut_true ht)
  · rw [s2, List.append_nil]
    exact Below.trodAll hl hb hp hA hlt
  · rw [hv, s3]; rfl

end
end Go.SX
