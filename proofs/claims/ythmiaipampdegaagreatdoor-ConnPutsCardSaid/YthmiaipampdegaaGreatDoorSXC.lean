/- SX, part C: a region that draws its order: if whatever meets is ordered by the edges, every order comes to what the text's order comes to. -/
import Derived.Test.YthmiaipampdegaaGreatDoorSXB
namespace Go.SX
noncomputable section

section over
variable {α : Type}

/-- The updates of those that D names, the later ones ahead. -/
def over (U : Nat → List (Nat × α)) (D : Nat → Bool) : Nat → List (Nat × α)
  | 0 => []
  | m + 1 => (if D m then U m else []) ++ over U D m

theorem over_congr {U : Nat → List (Nat × α)} {D D' : Nat → Bool} : ∀ {m : Nat}, (∀ j, j < m → D j = D' j) → over U D m = over U D' m
  | 0, _ => rfl
  | m + 1, h => by
    have ih := over_congr (fun j hj => h j (by omega) : ∀ j, j < m → D j = D' j) (U := U)
    simp only [over, h m (by omega), ih]

theorem over_agree {U : Nat → List (Nat × α)} {D D' : Nat → Bool} {k : Nat} : ∀ {m : Nat}, (∀ j, j < m → look (U j) k ≠ none → D j = D' j) → look (over U D m) k = look (over U D' m) k
  | 0, _ => rfl
  | m + 1, h => by
    have ih := over_agree (fun j hj => h j (by omega) : ∀ j, j < m → look (U j) k ≠ none → D j = D' j)
    simp only [over, look_append, ih]
    cases hu : look (U m) k with
    | none => cases D m <;> cases D' m <;> simp [lookN, lookC, hu]
    | some v => rw [h m (by omega) (by simp [hu])]

theorem over_lt {U : Nat → List (Nat × α)} {i : Nat} : ∀ {m : Nat}, i ≤ m → over U (fun j => decide (j < i)) m = over U (fun _ => true) i
  | 0, h => by have : i = 0 := by omega
               subst this; rfl
  | m + 1, h => by
    by_cases hi : i = m + 1
    · subst hi; exact over_congr fun j hj => by simp [hj]
    · have : ¬ m < i := by omega
      simp only [over, decide_eq_true_eq, this, if_false, List.nil_append]
      exact over_lt (by omega)

theorem over_insert {U : Nat → List (Nat × α)} {D D' : Nat → Bool} {i k : Nat} (hD : D i = false) (hi : D' i = true) (ho : ∀ j, j ≠ i → D' j = D j) : ∀ {m : Nat}, i < m →
    (∀ j, i < j → j < m → D j = true → look (U i) k ≠ none → look (U j) k = none) → look (over U D' m) k = (look (U i) k).or (look (over U D m) k)
  | 0, h, _ => by omega
  | m + 1, h, hc => by
    by_cases hm : i = m
    · subst hm
      simp only [over, hD, hi, if_true, Bool.false_eq_true, if_false, List.nil_append, look_append]
      rw [over_congr (fun j hj => ho j (by omega))]
    · have ih := over_insert hD hi ho (m := m) (by omega) (fun j h1 h2 => hc j h1 (by omega))
      simp only [over, look_append, ih, ho m (by omega)]
      cases hd : D m with
      | false => simp [lookN, lookC]
      | true =>
        cases hu : look (U i) k with
        | none => simp
        | some v => simp [hc m (by omega) (by omega) hd (by simp [hu])]
end over

theorem mem_looks {all : Array Oper} {o : Oper} {t : Nat} (h : t ∈ opTmps o ∨ ∃ j w, o.guard = some (j, w) ∧ (all[j]?).bind (·.dst) = some t) : t ∈ looks all o := by
  unfold looks
  rcases h with h | ⟨j, w, hg, hd⟩
  · exact List.mem_append_left _ h
  · refine List.mem_append_right _ ?_
    simp [hg, hd]

def Closed (all : Array Oper) (D : Nat → Bool) : Prop := ∀ k o, D k = true → all[k]? = some o → ∀ e ∈ o.after.toList, Region.binds .any e = true → D e.on = true

/-- Wherever j may come up, i is done. -/
def Anc (all : Array Oper) (i j : Nat) : Prop :=
  ∀ D, Closed all D → (∀ o, all[j]? = some o → ∀ e ∈ o.after.toList, Region.binds .any e = true → D e.on = true) → D i = true

/-- Whatever meets is ordered. -/
structure Ordered (all : Array Oper) (rs : List Rec) : Prop where
  back : ∀ (i : Nat) (o : Oper), all[i]? = some o → ∀ e ∈ o.after.toList, Region.binds .any e = true → e.on < i
  tmps : ∀ (i j : Nat) (o p : Oper) (t : Nat), i < j → all[i]? = some o → all[j]? = some p → ((o.dst = some t ∧ (t ∈ looks all p ∨ p.dst = some t)) ∨ (p.dst = some t ∧ t ∈ looks all o)) → Anc all i j
  hds : ∀ (i j : Nat) (r q : Rec) (h : Nat), i < j → rs[i]? = some r → rs[j]? = some q → ((h ∈ r.wr ∧ (h ∈ q.rd ∨ h ∈ q.wr)) ∨ (h ∈ r.rd ∧ h ∈ q.wr)) → Anc all i j

def UF (ops : List Oper) (rs : List Rec) (j : Nat) : Fr :=
  match ops[j]?, rs[j]? with
  | some o, some r => upF o r
  | _, _ => []
def UH (rs : List Rec) (j : Nat) : Heap :=
  match rs[j]? with
  | some r => r.post
  | none => []

theorem over_shift {α : Type} {U V : Nat → List (Nat × α)} (h : ∀ j, V (j + 1) = U j) : ∀ m, over V (fun _ => true) (m + 1) = over U (fun _ => true) m ++ V 0
  | 0 => by simp [over]
  | m + 1 => by
    rw [over, over_shift h m, over]
    simp [h]

theorem Run.facts {P : Program} {all : Array Oper} {ops : List Oper} {s s' : St} {rs : List Rec} (h : Run P all ops s rs s') :
    rs.length = ops.length ∧ s'.sz = s.sz ∧ s'.df = s.df ∧ s'.b = s.b ∧ s.n ≤ s'.n ∧
    s'.fr = over (UF ops rs) (fun _ => true) ops.length ++ s.fr ∧ s'.H = over (UH rs) (fun _ => true) ops.length ++ s.H ∧
    (∀ (i : Nat) (r : Rec), rs[i]? = some r → s.n ≤ r.n ∧ r.n ≤ r.n' ∧ r.n' ≤ s'.n) ∧
    (∀ (i j : Nat) (r q : Rec), i < j → rs[i]? = some r → rs[j]? = some q → r.n' ≤ q.n) ∧
    (∀ (i : Nat) (o : Oper) (r : Rec), ops[i]? = some o → rs[i]? = some r → RecOK P all s.sz o (over (UF ops rs) (fun _ => true) i ++ s.fr) (over (UH rs) (fun _ => true) i ++ s.H) r) ∧
    s'.log = (rs.map fun r => (r.rd, r.wr)).reverse ++ s.log := by
  induction h with
  | nil => simp [over]
  | @cons o l s s' r rs hr hn h ih =>
    obtain ⟨h1, h2, h3, hb, h4, h5, h6, h7, h8, h9, h10⟩ := ih
    have hnle := hr.nle
    have e1 : ∀ m, over (UF (o :: l) (r :: rs)) (fun _ => true) (m + 1) = over (UF l rs) (fun _ => true) m ++ upF o r := fun m => by
      rw [over_shift (U := UF l rs) (fun j => by simp [UF])]; simp [UF]
    have e2 : ∀ m, over (UH (r :: rs)) (fun _ => true) (m + 1) = over (UH rs) (fun _ => true) m ++ r.post := fun m => by
      rw [over_shift (U := UH rs) (fun j => by simp [UH])]; simp [UH]
    simp only [St.app] at h2 h3 hb h4 h5 h6 h7 h9 h10
    refine ⟨by simp [h1], h2, h3, hb, by omega, ?_, ?_, ?_, ?_, ?_, ?_⟩
    · rw [List.length_cons, e1, h5]; simp
    · rw [List.length_cons, e2, h6]; simp
    · intro i q hq
      cases i with
      | zero => simp at hq; subst hq; exact ⟨by omega, hnle, h4⟩
      | succ i => simp at hq; have := h7 i q hq; exact ⟨by omega, this.2⟩
    · intro i j q p hij hq hp
      cases j with
      | zero => omega
      | succ j =>
        simp at hp
        cases i with
        | zero => simp at hq; subst hq; exact (h7 j p hp).1
        | succ i => simp at hq; exact h8 i j q p (by omega) hq hp
    · intro i p q hp hq
      cases i with
      | zero => simp at hp hq; subst hp; subst hq; simpa [over] using hr
      | succ i =>
        simp at hp hq
        rw [e1, e2]
        have := h9 i p q hp hq
        simpa using this
    · rw [h10]; simp

def cnt (D : Nat → Bool) : Nat → Nat
  | 0 => 0
  | m + 1 => cnt D m + (if D m then 0 else 1)

theorem cnt_zero {D : Nat → Bool} : ∀ {m : Nat}, cnt D m = 0 → ∀ j, j < m → D j = true
  | 0, _, j, hj => by omega
  | m + 1, h, j, hj => by
    simp only [cnt] at h
    by_cases hjm : j = m
    · subst hjm
      cases hd : D j with
      | true => rfl
      | false => rw [hd] at h; simp at h
    · exact cnt_zero (m := m) (by omega) j (by omega)

theorem cnt_congr {D D' : Nat → Bool} : ∀ {m : Nat}, (∀ j, j < m → D' j = D j) → cnt D' m = cnt D m
  | 0, _ => rfl
  | m + 1, h => by
    have ih := cnt_congr (fun j hj => h j (by omega) : ∀ j, j < m → D' j = D j)
    simp only [cnt, h m (by omega), ih]

theorem cnt_insert {D D' : Nat → Bool} {i : Nat} (hD : D i = false) (hi : D' i = true) (ho : ∀ j, j ≠ i → D' j = D j) : ∀ {m : Nat}, i < m → cnt D m = cnt D' m + 1
  | 0, h => by omega
  | m + 1, h => by
    by_cases hm : i = m
    · subst hm
      have := cnt_congr (m := i) (fun j hj => ho j (by omega))
      simp only [cnt, hD, hi, this]; simp
    · have := cnt_insert hD hi ho (m := m) (by omega)
      simp only [cnt, ho m (by omega), this]; omega

theorem draw_sound {P : Program} {ro : Option Nat} {id : Nat} {all : Array Oper} {Q : Exit → Act → World → Prop} {X Y : Nat → Prop} {w0 : World} {s s' : St} {rs : List Rec}
    (hm : P.follows .mixedOrders = true) (h : Run P all all.toList s rs s') (hord : Ordered all rs)
    {env : Env} {F : Foot} {a : Act} {w : World} (hs : SatS env s F a w) (hsi : Since X Y w0 s.H F w)
    (hq : ∀ env' F' a' w', Ext s.n env env' → SatS env' s' F' a' w' → Since X Y w0 s'.H F' w' → Q .normal a' w') : (Code.region id all true).wpIn (Wd ro) 0 P Q a w := by
  obtain ⟨hlen, hsz, hdf, _, hnn, hfr, hH, hns, hdis, hrec, -⟩ := h.facts
  have hget : ∀ i : Nat, all.toList[i]? = all[i]? := fun i => Array.getElem?_toList
  refine wpIn_region_any hm ?_
  generalize hmm : all.size = m
  have hlen' : rs.length = m := by simpa [← hmm] using hlen
  have key : ∀ (fuel : Nat) (listed : Array Bool) (env1 : Env) (F : Foot) (a : Act) (w : World), listed.size = m →
      cnt (fun j => listed.getD j false) m ≤ fuel → Closed all (fun j => listed.getD j false) → Ext s.n env env1 →
      a.tmps.size = s.sz → DenD env1 s.df a.defers → DenF env1 (over (UF all.toList rs) (fun j => listed.getD j false) m ++ s.fr) a →
      SatH env1 (over (UH rs) (fun j => listed.getD j false) m ++ s.H) F w → Since X Y w0 (over (UH rs) (fun j => listed.getD j false) m ++ s.H) F w →
      (∀ h, s.n ≤ h → (∀ (j : Nat) (r : Rec), rs[j]? = some r → r.n ≤ h → h < r.n' → listed.getD j false = false) → env1 h = none) →
      wpAnyIn (Wd ro) 0 P .any all Q fuel listed a w := by
    intro fuel
    induction fuel with
    | zero =>
      intro listed env1 F a w hls hc hcl hle h1 h2 h3 h4 h5 h6
      have hall : ∀ j, j < m → listed.getD j false = true := cnt_zero (by omega)
      have eF : over (UF all.toList rs) (fun j => listed.getD j false) m = over (UF all.toList rs) (fun _ => true) m := over_congr hall
      have eH : over (UH rs) (fun j => listed.getD j false) m = over (UH rs) (fun _ => true) m := over_congr hall
      have hlm : all.toList.length = m := by simpa using hmm
      refine ⟨?_, ?_⟩
      · simp only [Region.ready, List.filter_eq_nil_iff]
        intro i hi
        have : i < m := by simpa [hmm] using hi
        have h' := hall i this
        have : listed.getD i true = true := by
          have hi' : i < listed.size := by omega
          simp only [Array.getD, hi', dite_true] at h' ⊢
          exact h'
        simp [this]
      · refine hq env1 F a w hle ⟨by rw [hsz]; exact h1, by rw [hdf]; exact h2, by rw [hfr, hlm, ← eF]; exact h3, by rw [hH, hlm, ← eH]; exact h4, ?_⟩ (by rw [hH, hlm, ← eH]; exact h5)
        intro h hh
        refine h6 h (by omega) ?_
        intro j r hj hr1 hr2
        have := hns j r hj; omega
    | succ fuel ih =>
      intro listed env1 F a w hls hc hcl hle h1 h2 h3 h4 h5 h6
      refine ⟨?_, ?_⟩
      · intro hnil
        -- nothing may come up: all is done
        have hall : ∀ j, j < m → listed.getD j false = true := by
          intro j
          induction j using Nat.strongRecOn with
          | _ j ihj =>
            intro hj
            rcases Bool.eq_false_or_eq_true (listed.getD j false) with hd | hd
            · exact hd
            · exfalso
              have hjs : j < all.size := by omega
              have hmem : j ∈ Region.ready .any all listed := by
                simp only [Region.ready, List.mem_filter, List.mem_range]
                refine ⟨hjs, ?_⟩
                have hja : all[j]? = some all[j] := by simp [hjs]
                have h' : listed.getD j true = false := by
                  have hi' : j < listed.size := by omega
                  simp only [Array.getD, hi', dite_true] at hd ⊢
                  exact hd
                simp only [hja, Option.map_some, Option.getD_some, h', Bool.not_false, Bool.true_and]
                rw [Array.all_eq_true']
                intro e he
                have he' : e ∈ all[j].after.toList := Array.mem_toList_iff.2 he
                cases hb : Region.binds .any e with
                | false => simp
                | true =>
                  have := hord.back j _ hja e he' hb
                  simp [ihj e.on this (by omega)]
              rw [hnil] at hmem
              cases hmem
        have hc0 : cnt (fun j => listed.getD j false) m = 0 := by
          rw [cnt_congr (D := fun _ => true) (fun j hj => hall j hj)]
          clear ih hc hall hls hcl h3 h4 h5 h6 hnil hrec hfr hH hlen hlen' hmm hns hdis
          induction m with
          | zero => rfl
          | succ m ih => simp [cnt, ih]
        have eF : over (UF all.toList rs) (fun j => listed.getD j false) m = over (UF all.toList rs) (fun _ => true) m := over_congr hall
        have eH : over (UH rs) (fun j => listed.getD j false) m = over (UH rs) (fun _ => true) m := over_congr hall
        have hlm : all.toList.length = m := by simpa using hmm
        refine hq env1 F a w hle ⟨by rw [hsz]; exact h1, by rw [hdf]; exact h2, by rw [hfr, hlm, ← eF]; exact h3, by rw [hH, hlm, ← eH]; exact h4, ?_⟩ (by rw [hH, hlm, ← eH]; exact h5)
        intro h hh
        refine h6 h (by omega) ?_
        intro j r hj hr1 hr2
        have := hns j r hj; omega
      · intro i hi
        simp only [Region.ready, List.mem_filter, List.mem_range, Bool.and_eq_true, Bool.not_eq_true'] at hi
        obtain ⟨his, hil, hie⟩ := hi
        have him : i < m := by omega
        have hia : all[i]? = some all[i] := by simp [his]
        generalize ho : all[i] = o at hia
        rw [hia] at hie
        simp only [Option.map_some, Option.getD_some] at hie
        rw [Array.all_eq_true'] at hie
        have hir : ∃ r, rs[i]? = some r := ⟨rs[i], by simp [hlen', him]⟩
        obtain ⟨r, hr⟩ := hir
        have hok := hrec i o r ((hget i).trans hia) hr
        have hDi : listed.getD i false = false := by
          have hi' : i < listed.size := by omega
          simp only [Array.getD, hi', dite_true] at hil ⊢
          exact hil
        have hedge : ∀ p, all[i]? = some p → ∀ e ∈ p.after.toList, Region.binds .any e = true → listed.getD e.on false = true := by
          intro p hp e he hb
          rw [hia] at hp; cases hp
          have := hie e (Array.mem_toList_iff.1 he)
          simpa [hb] using this
        -- who meets i is done just where it stands ahead of i
        have hset : ∀ j, j ≠ i → (Anc all j i ∧ j < i ∨ Anc all i j ∧ i < j) → (fun j => listed.getD j false) j = decide (j < i) := by
          rintro j hne (⟨ha, hlt⟩ | ⟨ha, hlt⟩)
          · simp only [hlt, decide_true]; exact ha _ hcl hedge
          · have : ¬ j < i := by omega
            simp only [this, decide_false]
            rcases Bool.eq_false_or_eq_true (listed.getD j false) with hd | hd
            · have := ha (fun j => listed.getD j false) hcl (fun p hp e he hb => hcl j p hd hp e he hb)
              simp only [hDi] at this; cases this
            · exact hd
        have hUF : ∀ j t, j < m → look (UF all.toList rs j) t ≠ none → ∃ p q, all[j]? = some p ∧ rs[j]? = some q ∧ p.dst = some t := by
          intro j t hj hl
          unfold UF at hl
          rw [hget] at hl
          cases hp : all[j]? with
          | none => rw [hp] at hl; simp [lookN, lookC] at hl
          | some p =>
            cases hq : rs[j]? with
            | none => rw [hp, hq] at hl; simp [lookN, lookC] at hl
            | some q =>
              rw [hp, hq] at hl
              cases hd : p.dst with
              | none => simp [upF, hd, lookN, lookC] at hl
              | some d =>
                simp only [upF, hd, look_cons, lookN, lookC] at hl
                have hdt : d = t := by
                  by_cases hdt : d = t
                  · exact hdt
                  · simp [hdt] at hl
                exact ⟨p, q, rfl, rfl, by rw [hd, hdt]⟩
        have hUH : ∀ j h, look (UH rs j) h ≠ none → ∃ q, rs[j]? = some q ∧ h ∈ q.wr ∧ j < m := by
          intro j h hl
          unfold UH at hl
          cases hq : rs[j]? with
          | none => rw [hq] at hl; simp [lookN, lookC] at hl
          | some q =>
            rw [hq] at hl
            cases hx : look q.post h with
            | none => simp [hx] at hl
            | some x =>
              have hjm : j < m := by
                rw [← hlen']
                rcases Nat.lt_or_ge j rs.length with h' | h'
                · exact h'
                · simp [List.getElem?_eq_none h'] at hq
              exact ⟨q, rfl, (hrec j all[j] q (by rw [hget]; simp) hq).wrs h x hx, hjm⟩
        have hstep := step_ok (ro := ro) (P := P) (all := all) (o := o) (r := r) (fr' := over (UF all.toList rs) (fun j => listed.getD j false) m ++ s.fr)
          (H' := over (UH rs) (fun j => listed.getD j false) m ++ s.H) (env := env1) (F := F) (a := a) (w := w) (w0 := w0) (X := X) (Y := Y) (df := s.df)
          (K := wpAnyIn (Wd ro) 0 P .any all Q fuel (listed.setIfInBounds i true)) (Q := Q) hok h1 h2 h3 h4 h5
          (by
            intro t ht
            have htl := mem_looks ht
            rw [← over_lt (U := UF all.toList rs) (i := i) (m := m) (by omega), look_append, look_append]
            congr 1
            refine over_agree fun j hj hl => ?_
            obtain ⟨p, q, hp, hq, hd⟩ := hUF j t hj hl
            by_cases hji : j = i
            · subst hji; simp only [hDi, Nat.lt_irrefl, decide_false]
            · refine hset j hji ?_
              rcases Nat.lt_or_ge j i with hlt | hge
              · exact .inl ⟨hord.tmps j i p o t hlt hp hia (.inl ⟨hd, .inl htl⟩), hlt⟩
              · exact .inr ⟨hord.tmps i j o p t (by omega) hia hp (.inr ⟨hd, htl⟩), by omega⟩)
          (by
            intro h hh _
            rw [← over_lt (U := UH rs) (i := i) (m := m) (by omega), look_append, look_append]
            congr 1
            refine over_agree fun j hj hl => ?_
            obtain ⟨q, hq, hw, _⟩ := hUH j h hl
            by_cases hji : j = i
            · subst hji; simp only [hDi, Nat.lt_irrefl, decide_false]
            · refine hset j hji ?_
              rcases Nat.lt_or_ge j i with hlt | hge
              · exact .inl ⟨hord.hds j i q r h hlt hq hr (.inl ⟨hw, hh⟩), hlt⟩
              · refine .inr ⟨hord.hds i j r q h (by omega) hr hq ?_, by omega⟩
                rcases hh with hh | hh
                · exact .inr ⟨hh, hw⟩
                · exact .inl ⟨hh, .inr hw⟩)
          (by
            intro h hh1 hh2
            refine h6 h (by have := (hns i r hr).1; omega) ?_
            intro j q hj hq1 hq2
            rcases Nat.lt_trichotomy i j with hlt | heq | hgt
            · have := hdis i j r q hlt hr hj; omega
            · subst heq; exact hDi
            · have := hdis j i q r hgt hj hr; omega)
          (by
            intro env' F' a' w' hle' honly k1 k2 k3 k4 k5
            have hD' : ∀ j, (listed.setIfInBounds i true).getD j false = if j = i then true else listed.getD j false := by
              intro j
              by_cases hji : j = i
              · subst hji; simp [Array.getD_eq_getD_getElem?, hls, him]
              · have : i ≠ j := fun e => hji e.symm
                simp [Array.getD_eq_getD_getElem?, Array.getElem?_setIfInBounds_ne this, hji]
            have hDii : (listed.setIfInBounds i true).getD i false = true := by rw [hD']; simp
            have hDo : ∀ j, j ≠ i → (listed.setIfInBounds i true).getD j false = listed.getD j false := fun j hj => by rw [hD']; simp [hj]
            have eF : ∀ t, look (over (UF all.toList rs) (fun j => (listed.setIfInBounds i true).getD j false) m ++ s.fr) t = look (upF o r ++ (over (UF all.toList rs) (fun j => listed.getD j false) m ++ s.fr)) t := by
              intro t
              have hU : UF all.toList rs i = upF o r := by unfold UF; rw [hget, hia, hr]
              rw [look_append, look_append, look_append, over_insert (D := fun j => listed.getD j false) hDi hDii hDo him ?_, hU, Option.or_assoc]
              intro j hij hj hdj hne
              rw [Classical.byContradiction (p := look (UF all.toList rs j) t = none)]
              intro hne'
              obtain ⟨p, q, hp, hq, hd⟩ := hUF j t hj hne'
              obtain ⟨p', q', hp', hq', hd'⟩ := hUF i t him hne
              rw [hia] at hp'; cases hp'
              have := hset j (by omega) (.inr ⟨hord.tmps i j o p t hij hia hp (.inl ⟨hd', .inr hd⟩), hij⟩)
              have hn : ¬ j < i := by omega
              simp only [hdj, hn, decide_false] at this
              cases this
            have eH : ∀ t, look (over (UH rs) (fun j => (listed.setIfInBounds i true).getD j false) m ++ s.H) t = look (r.post ++ (over (UH rs) (fun j => listed.getD j false) m ++ s.H)) t := by
              intro t
              have hU : UH rs i = r.post := by unfold UH; rw [hr]
              rw [look_append, look_append, look_append, over_insert (D := fun j => listed.getD j false) hDi hDii hDo him ?_, hU, Option.or_assoc]
              intro j hij hj hdj hne
              rw [Classical.byContradiction (p := look (UH rs j) t = none)]
              intro hne'
              obtain ⟨q, hq, hw, _⟩ := hUH j t hne'
              obtain ⟨q', hq', hw', _⟩ := hUH i t hne
              rw [hr] at hq'; cases hq'
              have := hset j (by omega) (.inr ⟨hord.hds i j r q t hij hr hq (.inl ⟨hw', .inr hw⟩), hij⟩)
              have hn : ¬ j < i := by omega
              simp only [hdj, hn, decide_false] at this
              cases this
            refine ih (listed.setIfInBounds i true) env' F' a' w' (by simp [hls]) ?_ ?_ (hle.trans ⟨hle', fun x hx => honly x (by have := (hns i r hr).1; omega)⟩ (Nat.le_refl _)) k1 k2 ?_ (k4.congr eH) (k5.congr eH) ?_
            · have := cnt_insert (D := fun j => listed.getD j false) (D' := fun j => (listed.setIfInBounds i true).getD j false) hDi hDii hDo him
              omega
            · intro k p hk hp e he hb
              by_cases hki : k = i
              · subst hki
                have h' := hedge p hp e he hb
                show (listed.setIfInBounds k true).getD e.on false = true
                rw [hD']; split
                · rfl
                · exact h'
              · have hk : (listed.setIfInBounds i true).getD k false = true := hk
                rw [hDo k hki] at hk
                have h' := hcl k p hk hp e he hb
                show (listed.setIfInBounds i true).getD e.on false = true
                rw [hD']; split
                · rfl
                · exact h'
            · intro t v hl
              exact k3 t v ((eF t).symm.trans hl)
            · intro h hh hfr
              have hi' : ¬ (r.n ≤ h ∧ h < r.n') := by
                rintro ⟨x1, x2⟩
                have := hfr i r hr x1 x2
                rw [hDii] at this; cases this
              rw [honly h hi']
              refine h6 h hh ?_
              intro j q hj x1 x2
              by_cases hji : j = i
              · subst hji; exact hDi
              · have := hfr j q hj x1 x2
                rwa [hDo j hji] at this)
        unfold wpOpIn
        rw [hia]
        simp only
        by_cases hw : Region.wanted o (yielded all a.tmps) = true
        · rw [if_pos hw] at hstep ⊢; exact hstep
        · rw [if_neg hw] at hstep ⊢; exact hstep
  have hD0 : ∀ j, (Array.replicate m false).getD j false = false := by
    intro j; simp only [Array.getD_eq_getD_getElem?]
    rcases Nat.lt_or_ge j m with hj | hj <;> simp [hj]
  have e0 : ∀ {α : Type} (U : Nat → List (Nat × α)), over U (fun j => (Array.replicate m false).getD j false) m = [] := by
    intro α U
    rw [over_congr (D' := fun _ => false) (fun j _ => hD0 j)]
    clear hmm hlen' hD0 key
    induction m with
    | zero => rfl
    | succ m ih => simp [over, ih]
  refine key m (Array.replicate m false) env F a _ (by simp) ?_ ?_ (Ext.refl _ _) hs.size hs.defers ?_ ?_ ?_ ?_
  · clear hmm hlen' hD0 e0 key
    have : ∀ (D : Nat → Bool) k, cnt D k ≤ k := by
      intro D k; induction k with
      | zero => simp [cnt]
      | succ k ih => simp only [cnt]; split <;> omega
    exact this _ _
  · intro k o hk
    have hk : (Array.replicate m false).getD k false = true := hk
    rw [hD0] at hk; cases hk
  · rw [e0]; exact hs.val
  · rw [e0]; exact hs.heap.drew
  · rw [e0]; exact ⟨⟨hsi.frame.os, hsi.frame.tape, hsi.frame.output, hsi.frame.size, hsi.frame.block⟩, hsi.own⟩
  · intro h hh _; exact hs.fresh h hh

end
end Go.SX
