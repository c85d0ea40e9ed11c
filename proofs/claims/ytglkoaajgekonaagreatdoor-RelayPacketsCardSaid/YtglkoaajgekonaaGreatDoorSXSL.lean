/- SX, part SL: arguments that are slices of numbers and texts, or of structs of them: typed cells that may be read. -/
import Derived.Test.YtglkoaajgekonaaGreatDoorSXSM
namespace Go.SX
noncomputable section
open Go.ChangeShapes Go.WideShapes Go.ChangeAt Go.RowKit
def LK.good (k : LK) (x : Value) : Prop := match k with
 | .int j => ∃ n, x = .int j n ∧ j.min ≤ n ∧ n ≤ j.max
 | .str => ∃ s, x = .string s ∧ s.size ≤ reachBytes
 | .bool => ∃ b, x = .bool b
theorem trod_good {H : Type} {enc : TypeId × Value → H} {P : Program} {w : World} {base : Nat} {sp : Nat → Bool} {held : Bool} : ∀ {d : Nat} {t : TypeId} {ks : List LK} {fuel : Nat} {cs : List Value} {dd : DataW H} {p : List MemPlace},
  flatT P d t = some ks → DataW.trod enc P w base sp held fuel t cs = some (dd, p) → (∀ n ∈ dd.weights P t, n ≤ reachBytes) → ∀ (j : Nat) (k : LK), ks[j]? = some k → ∃ x, cs[j]? = some x ∧ k.good x := by
 intro d
 induction d with
 | zero => intro t ks fuel cs dd p h; simp [flatT] at h
 | succ d ih =>
  intro t ks fuel cs dd p h ht hw j k hj
  cases fuel with
  | zero => simp [DataW.trod] at ht
  | succ fuel =>
   unfold flatT at h
   unfold DataW.trod at ht
   split at h
   ·rename_i q hu
    cases h
    obtain ⟨rfl, rfl⟩ : j = 0 ∧ k = .int q := by
     cases j with
     | zero => simpa [eq_comm] using hj
     | succ j => simp at hj
    simp only [hu] at ht
    cases cs with
    | nil => simp at ht
    | cons c l =>
     cases l with
     | cons _ _ => cases c <;> simp at ht
     | nil =>
      cases c <;> simp only at ht <;> first | (cases ht; done) | skip
      split at ht
      ·rename_i hk
       obtain ⟨rfl, hk⟩ := hk
       simp only [Lit.wf, Bool.and_eq_true, decide_eq_true_eq] at hk
       exact ⟨_, rfl, _, rfl, hk⟩
      ·cases ht
   ·rename_i hu
    cases h
    obtain ⟨rfl, rfl⟩ : j = 0 ∧ k = .str := by
     cases j with
     | zero => simpa [eq_comm] using hj
     | succ j => simp at hj
    simp only [hu] at ht
    cases cs with
    | nil => simp at ht
    | cons c l =>
     cases l with
     | cons _ _ => cases c <;> simp at ht
     | nil =>
      cases c <;> simp only at ht <;> first | (cases ht; done) | skip
      split at ht
      ·cases ht
       exact ⟨_, rfl, _, rfl, hw _ (by simp [DataW.weights])⟩
      ·cases ht
   ·rename_i hu
    cases h
    obtain ⟨rfl, rfl⟩ : j = 0 ∧ k = .bool := by
     cases j with
     | zero => simpa [eq_comm] using hj
     | succ j => simp at hj
    simp only [hu] at ht
    cases cs with
    | nil => simp at ht
    | cons c l =>
     cases l with
     | cons _ _ => cases c <;> simp at ht
     | nil =>
      cases c <;> simp only at ht <;> first | (cases ht; done) | skip
      exact ⟨_, rfl, _, rfl⟩
   ·rename_i fs hu
    split at h
    ·simp only [hu] at ht
     split at ht
     ·cases hm : fs.toList.mapM fun f => DataW.trod enc P w base sp held fuel f.type ((cs.drop f.offset).take (P.cellsOf f.type)) with
      | none => rw [hm] at ht; cases ht
      | some xs =>
       rw [hm] at ht
       simp only [Option.map_some, Option.some.injEq, Prod.mk.injEq] at ht
       obtain ⟨rfl, _⟩ := ht
       have key : ∀ (l : List Field) (off i0 : Nat) (ks : List LK), flatF P (flatT P d) off l = some ks → (∀ i f, l[i]? = some f → fs.toList[i0 + i]? = some f) → ∀ j k, ks[j]? = some k → ∃ x, cs[off + j]? = some x ∧ k.good x := by
        intro l
        induction l with
        | nil => intro off i0 ks h _ j k hj; simp only [flatF, Option.some.injEq] at h; subst h; simp at hj
        | cons f l ihl =>
         intro off i0 ks h hsub j k hj
         unfold flatF at h
         split at h
         ·rename_i ks0 i hb hk0 hi
          split at h
          ·rename_i r hsz hr
           cases h
           have hsz := Nat.eq_of_beq_eq_true hsz
           have hoff : f.offset = off := Nat.eq_of_beq_eq_true (Bool.and_eq_true _ _ |>.mp hb).1
           have hc : P.cellsOf f.type = ks0.length := by simp [Program.cellsOf, hi, hsz]
           by_cases hlt : j < ks0.length
           ·rw [List.getElem?_append_left hlt] at hj
            have hf := hsub 0 f rfl
            obtain ⟨y, e1, e2⟩ := mapM_at hm hf
            obtain ⟨x, g1, g2⟩ := ih hk0 (dd := y.1) (p := y.2) e1 (fun n hn => hw n (by
             simp only [DataW.weights, hu]
             refine DataW.weights_mem_each (j := i0 + 0) (t := f.type) (d := y.1) ?_ ?_ n hn
             ·rw [List.getElem?_map, hf]; rfl
             ·rw [List.getElem?_map, e2]; rfl)) j k hj
            refine ⟨x, ?_, g2⟩
            rw [hc, hoff, List.getElem?_take, if_pos hlt, List.getElem?_drop] at g1
            exact g1
           ·rw [List.getElem?_append_right (by omega)] at hj
            obtain ⟨x, g1, g2⟩ := ihl (off + ks0.length) (i0 + 1) r hr (fun i f' hf' => by have := hsub (i + 1) f' (by simpa using hf'); rw [show i0 + 1 + i = i0 + (i + 1) by omega]; exact this) _ k hj
            exact ⟨x, by rw [← g1]; congr 1; omega, g2⟩
          ·cases h
         ·cases h
       have := key fs.toList 0 0 ks h (fun i f hf => by simpa using hf) j k hj
       simpa using this
     ·cases ht
    ·cases h
   ·cases h
def avOf : Value → AV
 | .int k n => .int k n
 | .string s => .str s
 | .bool b => .bool b
 | _ => .nilp
def LK.okA (k : LK) (a : AV) : Prop := match k with
 | .int j => ∃ n, a = .int j n ∧ j.min ≤ n ∧ n ≤ j.max
 | .str => ∃ s, a = .str s ∧ s.size ≤ reachBytes
 | .bool => ∃ b, a = .bool b
theorem good_clo {k : LK} {x : Value} (h : k.good x) : Clo (avOf x) x ∧ k.okA (avOf x) := by
 cases k with
 | int j => obtain ⟨n, rfl, h⟩ := h; exact ⟨⟨rfl, fun env => by simp only [avOf, Den]⟩, n, rfl, h⟩
 | str => obtain ⟨s, rfl, h⟩ := h; exact ⟨⟨rfl, fun env => by simp only [avOf, Den]⟩, s, rfl, h⟩
 | bool => obtain ⟨b, rfl⟩ := h; exact ⟨⟨rfl, fun env => by simp only [avOf, Den]⟩, b, rfl⟩
theorem slice_reads {H : Type} {enc : TypeId × Value → H} {P : Program} {w : World} {sp : Nat → Bool} {held : Bool} {t e : TypeId} {ks : List LK} {v : Value} {d : DataW H} {p : List MemPlace}
  (ht : P.underlying t = some (.slice e)) (hk : flatT P 100 e = some ks) (hc : P.cellsOf e = ks.length) (hpos : 0 < ks.length) (hv : ∃ q n c, v = .slice q n c) (h : DataW.Trod enc P w 0 sp held t v d p) (hw : ∀ n ∈ d.weights P t, n ≤ reachBytes) :
  ∃ len cell, (∃ F, ReadsAs v len ks.length cell F w) ∧ len * P.bytesOf e ≤ reachBytes ∧ len ≤ maxLen ∧ ∀ (i j : Nat) (k : LK), i < len → ks[j]? = some k → k.okA (cell i j) := by
 obtain ⟨q, n, c, rfl⟩ := hv
 obtain ⟨fuel, h⟩ := h
 have hcells : (Value.slice q n c).cells.toList = [.slice q n c] := by simp [Value.cells]
 rw [hcells] at h
 cases fuel with
 | zero => simp [DataW.trod] at h
 | succ fuel =>
  unfold DataW.trod at h
  simp only [ht] at h
  cases q with
  | none =>
   cases n with
   | succ n => simp at h
   | zero =>
    cases c with
    | succ c => simp at h
    | zero => exact ⟨0, fun _ _ => .nilp, ⟨fun _ => False, none, 0, rfl, Nat.le_refl _, .inl ⟨rfl, fun _ h => h⟩⟩, by simp, Nat.zero_le _, fun i j k hi => absurd hi (Nat.not_lt_zero i)⟩
  | some a =>
   simp only at h
   split at h
   ·rename_i hcond
    obtain ⟨_, hnc, hcm⟩ := hcond
    cases hm : (List.range n).mapM fun i => (w.cells? 0 (a.add (i * P.cellsOf e)) (P.cellsOf e)).bind (DataW.trod enc P w 0 sp held fuel e) with
    | none => rw [hm] at h; cases h
    | some es =>
     rw [hm] at h
     simp only [Option.bind_some] at h
     obtain ⟨rest, hd⟩ : ∃ rest : List (DataW H), d = .slice (es.map (·.1)) rest := by
      cases hr : (if sp a.block = true then (List.range (c - n)).mapM fun j => (w.cells? 0 (a.add ((n + j) * P.cellsOf e)) (P.cellsOf e)).bind (DataW.trod enc P w 0 sp held fuel e) else some []) with
      | none => rw [hr] at h; cases h
      | some r => rw [hr] at h; simp only [Option.map_some, Option.some.injEq, Prod.mk.injEq] at h; exact ⟨_, h.1.symm⟩
     subst hd
     simp only [DataW.weights, ht] at hw
     have hlen : es.length = n := by have := mapM_some_length hm; simpa using this
     have elem : ∀ i, i < n → ∃ cs y, w.cells? 0 (a.add (i * P.cellsOf e)) (P.cellsOf e) = some cs ∧ DataW.trod enc P w 0 sp held fuel e cs = some y ∧ es[i]? = some y := by
      intro i hi
      obtain ⟨y, e1, e2⟩ := mapM_at hm (i := i) (x := i) (by simp [hi])
      cases hcs : w.cells? 0 (a.add (i * P.cellsOf e)) (P.cellsOf e) with
      | none => rw [hcs] at e1; cases e1
      | some cs => rw [hcs] at e1; exact ⟨cs, y, rfl, e1, e2⟩
     have wts : ∀ (l : List (DataW H × List MemPlace)) y, y ∈ l → ∀ m ∈ y.1.weights P e, m ∈ DataW.weightsAll P e (l.map (·.1)) := by
      intro l
      induction l with
      | nil => intro y hy; cases hy
      | cons z l ih =>
       intro y hy m hmm
       simp only [List.map_cons, DataW.weightsAll, List.mem_append]
       rcases List.mem_cons.1 hy with rfl | hy
       ·exact .inl hmm
       ·exact .inr (ih y hy m hmm)
     have good : ∀ i j k, i < n → ks[j]? = some k → ∃ x, w.cell? ((a.add (i * P.cellsOf e)).add j) = some x ∧ k.good x := by
      intro i j k hi hj
      obtain ⟨cs, y, e1, e2, e3⟩ := elem i hi
      obtain ⟨_, hl, hcell⟩ := World.cells?_some e1
      obtain ⟨x, g1, g2⟩ := trod_good hk (dd := y.1) (p := y.2) e2 (fun m hmm => hw m (by
       simp only [List.mem_cons, List.mem_append]
       exact .inr (.inl (wts es y (List.mem_of_getElem? e3) m hmm)))) j k hj
      have hjl : j < ks.length := by
       rcases Nat.lt_or_ge j ks.length with q | q
       ·exact q
       ·rw [List.getElem?_eq_none q] at hj; cases hj
      exact ⟨x, by rw [hcell j (by omega)]; exact g1, g2⟩
     by_cases hn : n = 0
     ·subst hn
      exact ⟨0, fun _ _ => .nilp, ⟨fun _ => False, some a, c, rfl, Nat.zero_le _, .inl ⟨rfl, fun _ h => h⟩⟩, by simp, Nat.zero_le _, fun i j k hi => absurd hi (Nat.not_lt_zero i)⟩
     ·obtain ⟨x0, h0, _⟩ := good 0 0 ks[0] (by omega) (List.getElem?_eq_getElem hpos)
      have ha0 : ((a.add (0 * P.cellsOf e)).add 0) = a := by simp [Addr.add]
      rw [ha0] at h0
      obtain ⟨b, o, spot⟩ := a
      have hspot : spot = none := by
       unfold World.cell? at h0
       split at h0
       ·split at h0
        ·cases h0
        ·rename_i hs; cases spot with | none => rfl | some _ => simp at hs
       ·cases h0
      subst hspot
      have haddr : ∀ i j, ((Addr.add ⟨b, o, none⟩ (i * P.cellsOf e)).add j) = ⟨b, o + (i * ks.length + j), none⟩ := by
       intro i j
       rw [addr_add, addr_add, hc, Nat.add_assoc]
      obtain ⟨arr, el, f, hb⟩ : ∃ arr el f, w.heap[b]? = some (.cells arr el f) := by
       unfold World.cell? at h0
       split at h0
       ·rename_i arr el f hb; exact ⟨arr, el, f, hb⟩
       ·cases h0
      refine ⟨n, fun i j => match arr[o + (i * ks.length + j)]? with | some x => avOf x | none => .nilp, ⟨fun k => k = b, some ⟨b, o, none⟩, c, rfl, hnc, .inr ⟨b, o, arr, el, f, rfl, fun k => Iff.rfl, hb, ?_⟩⟩, ?_, by omega, ?_⟩
      ·intro i j hi hj
       obtain ⟨x, g1, g2⟩ := good i j ks[j] hi (List.getElem?_eq_getElem hj)
       rw [haddr, cell_of hb] at g1
       refine ⟨x, g1, ?_⟩
       simp only [g1]
       exact (good_clo g2).1
      ·refine Nat.le_trans (Nat.mul_le_mul_right _ ?_) (hw _ List.mem_cons_self)
       rw [List.length_map, hlen]; exact Nat.le_add_right _ _
      ·intro i j k hi hj
       obtain ⟨x, g1, g2⟩ := good i j k hi hj
       rw [haddr, cell_of hb] at g1
       simp only [g1]
       exact (good_clo g2).2
   ·cases h
inductive PK where
 | p (k : TyK)
 | s (ks : List LK)
def parK (P : Program) (t : TypeId) : Option PK := match P.underlying t with
 | some (.slice e) => match flatT P 100 e with
  | some (k :: ks) => match Nat.beq (P.cellsOf e) (k :: ks).length with
   | true => some (.s (k :: ks))
   | false => none
  | _ => none
 | _ => match flatS P t, kindK P t with
  | true, some k => some (.p k)
  | _, _ => none
def parsK (P : Program) : List TypeId → Option (List PK)
 | [] => some []
 | t :: ts => match parK P t, parsK P ts with
  | some k, some ks => some (k :: ks)
  | _, _ => none
def ArgsL : List PK → Nat → List AV → Heap → Nat → Prop
 | [], i, vs, R, n => vs = [] ∧ R = [] ∧ n = i
 | .p k :: ks, i, vs, R, n => ∃ v vs', vs = v :: vs' ∧ k.ok v ∧ smallA v ∧ ArgsL ks i vs' R n
 | .s ls :: ks, i, vs, R, n => ∃ len cell vs' R', vs = .sl i len :: vs' ∧ R = (i, .abs (lst none len ls.length cell)) :: R' ∧ len ≤ maxLen ∧ (∀ (a j : Nat) (k : LK), a < len → ls[j]? = some k → k.okA (cell a j)) ∧ ArgsL ks (i + 1) vs' R' n
theorem ArgsL.le : ∀ {ks : List PK} {i : Nat} {vs : List AV} {R : Heap} {n : Nat}, ArgsL ks i vs R n → i ≤ n
 | [], _, _, _, _, h => by rw [h.2.2]; exact Nat.le_refl _
 | .p _ :: ks, _, _, _, _, h => by obtain ⟨v, vs', _, _, _, h⟩ := h; exact h.le
 | .s _ :: ks, _, _, _, _, h => by obtain ⟨len, cell, vs', R', _, _, _, _, h⟩ := h; have := h.le; omega
theorem ArgsL.keys : ∀ {ks : List PK} {i : Nat} {vs : List AV} {R : Heap} {n : Nat}, ArgsL ks i vs R n → ∀ h q, look R h = some q → i ≤ h ∧ h < n ∧ q.excl = false
 | [], _, _, _, _, h, k, q, hl => by rw [h.2.1] at hl; simp [lookN] at hl
 | .p _ :: ks, _, _, _, _, h, k, q, hl => by obtain ⟨v, vs', _, _, _, h⟩ := h; exact h.keys k q hl
 | .s ls :: ks, i, _, _, _, h, k, q, hl => by
  obtain ⟨len, cell, vs', R', _, rfl, _, _, h⟩ := h
  rw [look_cons] at hl
  split at hl
  ·rename_i e
   cases hl
   subst e
   have := h.le
   exact ⟨Nat.le_refl _, by omega, rfl⟩
  ·have := h.keys k q hl; exact ⟨by omega, this.2⟩
theorem args_list {H : Type} {enc : TypeId × Value → H} {P : Program} {w : World} {r : Reach} {base : Nat} {sp : Nat → Bool} {held : Bool} {us : List TypeId} {gs : List (DataW H)} : ∀ {ts : List TypeId} {ks : List PK} {vs : List Value} {ds : List (DataW H)} {p : List MemPlace} (i : Nat),
  parsK P ts = some ks → (∀ (j : Nat) t v, ts[j]? = some t → vs[j]? = some v → Value.okWide P w r base t v) → DataW.TrodAll enc P w 0 sp held ts vs ds p → (DataW.weightsEach P (ts ++ us) (ds ++ gs)).all (· ≤ reachBytes) = true →
  ∃ (as : List AV) (R : Heap) (n : Nat) (env : Env) (F : Foot), Dens env as vs ∧ ArgsL ks i as R n ∧ (∀ h q, look R h = some q → ∃ v, env h = some v ∧ q.sat env v (F h) w) ∧ ∀ h, ¬ (i ≤ h ∧ h < n) → env h = none
 | [], ks, vs, ds, p, i, hk, _, hA, _ => by
  simp only [parsK, Option.some.injEq] at hk
  subst hk
  cases vs with
  | cons _ _ => cases ds <;> exact hA.elim
  | nil => exact ⟨[], [], i, fun _ => none, fun _ _ => False, by simp [Dens], ⟨rfl, rfl, rfl⟩, fun h q hl => by simp [lookN] at hl, fun _ _ => rfl⟩
 | t :: ts, ks, vs, ds, p, i, hk, hok, hA, hz => by
  cases vs with
  | nil => cases ds <;> exact hA.elim
  | cons v vs =>
  cases ds with
  | nil => exact hA.elim
  | cons d ds =>
  obtain ⟨p1, q, h1, h2, rfl⟩ := hA
  simp only [List.cons_append, DataW.weightsEach, List.all_append, Bool.and_eq_true] at hz
  have hz1 : ∀ n ∈ d.weights P t, n ≤ reachBytes := fun n hn => of_decide_eq_true (List.all_eq_true.1 hz.1 n hn)
  simp only [parsK] at hk
  split at hk
  ·rename_i k ks' hk1 hk2
   cases hk
   have hok' : ∀ (j : Nat) t v, ts[j]? = some t → vs[j]? = some v → Value.okWide P w r base t v := fun j t v h1 h2 => hok (j + 1) t v (by simpa using h1) (by simpa using h2)
   have hv := hok 0 t v rfl rfl
   unfold parK at hk1
   split at hk1
   ·rename_i e hu
    split at hk1
    ·rename_i k0 ks0 hfl
     split at hk1
     ·rename_i hc
      cases hk1
      have hvs : ∃ q n c, v = .slice q n c := by
       unfold Value.okWide at hv
       rw [hu] at hv
       simp only at hv
       unfold Cell.okWide Cell.ok at hv
       rw [hu] at hv
       cases v <;> first | exact ⟨_, _, _, rfl⟩ | exact hv.elim
      obtain ⟨len, cell, ⟨F0, hr⟩, _, hm, hcell⟩ := slice_reads hu hfl (Nat.eq_of_beq_eq_true hc) (by simp) hvs h1 hz1
      obtain ⟨as, R, n, env, F, d1, a1, s1, n1⟩ := args_list (i + 1) hk2 hok' h2 hz.2
      let env' : Env := fun h => if h = i then some v else env h
      have hle : env.le env' := by
       intro h x hx
       show (if h = i then some v else env h) = some x
       split
       ·rename_i e; subst e; rw [n1 h (by omega)] at hx; cases hx
       ·exact hx
      refine ⟨.sl i len :: as, (i, .abs (lst none len (k0 :: ks0).length cell)) :: R, n, env', fun h => if h = i then F0 else F h, ?_, ⟨len, cell, as, R, rfl, rfl, hm, hcell, a1⟩, ?_, ?_⟩
      ·simp only [Dens]
       refine ⟨v, vs, rfl, ?_, Dens.mono hle as d1⟩
       simp only [Den]
       obtain ⟨p, cap, rfl, _, hor⟩ := hr
       refine ⟨by show (if i = i then _ else _) = _; rw [if_pos rfl], p, cap, rfl, fun hl => ?_⟩
       rcases hor with ⟨h0, _⟩ | ⟨b, o, _, _, _, rfl, _⟩
       ·omega
       ·exact ⟨b, o, rfl⟩
      ·intro h q hl
       rw [look_cons] at hl
       split at hl
       ·rename_i e
        cases hl
        subst e
        refine ⟨v, by show (if _ then _ else _) = _; rw [if_pos rfl], ?_⟩
        simp only [if_pos rfl]
        exact hr
       ·rename_i e
        obtain ⟨x, x1, x2⟩ := s1 h q hl
        have hne : ¬ h = i := by have := (a1.keys h q hl).1; omega
        refine ⟨x, by show (if _ then _ else _) = _; rw [if_neg hne]; exact x1, ?_⟩
        simp only [if_neg hne]
        have := (a1.keys h q hl).2.2
        exact Res.sat_stable hle (fun _ _ => rfl) x2
      ·intro h hh
       show (if h = i then some v else env h) = none
       have := a1.le
       rw [if_neg (by omega)]
       exact n1 h (by omega)
     ·cases hk1
    ·cases hk1
   ·split at hk1
    ·rename_i k1 hfs hkk
     cases hk1
     obtain ⟨as, R, n, env, F, d1, a1, s1, n1⟩ := args_list i hk2 hok' h2 hz.2
     obtain ⟨a, e1, e2⟩ := val_typed env hv hkk
     exact ⟨a :: as, R, n, env, F, by simp only [Dens]; exact ⟨v, vs, rfl, e1, d1⟩, ⟨a, as, rfl, e2, small_den e1 (trod_small hfs h1 hz1), a1⟩, s1, n1⟩
    ·cases hk1
  ·cases hk
theorem Ctr.lawL {P : Program} {f : FuncId} {ts : List TypeId} {ks : List PK} (hks : parsK P ts = some ks) (h : ∀ as R n, ArgsL ks 0 as R n → ∃ n', Ctr P f as R [] n n' (.bool true) [])
  {H : Type} {enc : TypeId × Value → H} {W : World} {base : Nat} {args : Array Value} {sp : Nat → Bool} {held : Bool} {us : List TypeId} {ds gs : List (DataW H)} {p : List MemPlace}
  (hok : ∀ (j : Nat) t v, ts[j]? = some t → args.toList[j]? = some v → Value.okWide P W .any base t v) (hA : DataW.TrodAll enc P W 0 sp held ts args.toList ds p) (hz : (DataW.weightsEach P (ts ++ us) (ds ++ gs)).all (· ≤ reachBytes) = true) :
  Calls P f args W fun e W' => e = .returned (.bool true) ∧ Below W.heap.size W W' := by
 obtain ⟨as, R, n, env, F, d1, a1, s1, n1⟩ := args_list 0 hks hok hA hz
 obtain ⟨n', _, _, _, spec⟩ := h as R n a1
 refine (spec env F W args d1 ⟨fun hl => s1 _ _ hl, fun hl _ _ he => ?_⟩ (fun k h1 _ => n1 k (by omega))).mono ?_
 ·rw [(a1.keys _ _ hl).2.2] at he; cases he
 ·rintro e W' ⟨env', F', x, rfl, t, hd⟩
  simp only [Den] at hd
  subst hd
  refine ⟨rfl, t.frame.os, t.frame.tape, t.frame.output, t.frame.size, fun k hk => t.frame.block k hk ?_⟩
  rintro ⟨h0, r0, hl, _⟩
  simp [lookN] at hl
end
end Go.SX
-- SQUEEZED
