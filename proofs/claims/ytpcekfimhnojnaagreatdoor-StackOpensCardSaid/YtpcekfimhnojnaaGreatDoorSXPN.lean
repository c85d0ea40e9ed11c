/- SX, part PA: a region whose last operation does not come back. -/
import Derived.Test.YtpcekfimhnojnaaGreatDoorSXQ
import Derived.RecoverIn
import Derived.Test.YtpcekfimhnojnaaGreatDoorSXR
namespace Go.SX
noncomputable section

theorem draw_soundP {P : Program} {ro : Option Nat} {id : Nat} {all : Array Oper} {Q : Exit → Act → World → Prop} {X Y : Nat → Prop} {w0 : World} {s s' : St} {rs : List Rec} {l : List Oper} {lo : Oper}
    (hm : P.follows .mixedOrders = true) (h : Run P all l s rs s') (hall : all.toList = l ++ [lo]) (hord : Ordered all rs) (hanc : ∀ i, i < l.length → Anc all i l.length)
    {env : Env} {F : Foot} {a : Act} {w : World} (hs : SatS env s F a w) (hsi : Since X Y w0 s.H F w)
    (hq : ∀ (K : Act → World → Prop) env' F' a' w', Ext s.n env env' → SatS env' s' F' a' w' → Since X Y w0 s'.H F' w' → if Region.wanted lo (yielded all a'.tmps) = true then lo.wpIn (Wd ro) 0 P a' w' K Q else (∀ f, lo.about P w' a'.eval = some f → (Wd ro).fn f) ∧ K (a'.put lo.dst undef) w') :
    (Code.region id all true).wpIn (Wd ro) 0 P Q a w := by
  obtain ⟨hlen, hsz, hdf, _, hnn, hfr, hH, hns, hdis, hrec, -⟩ := h.facts
  have hget : ∀ i : Nat, i < l.length → l[i]? = all[i]? := fun i hi => by rw [← Array.getElem?_toList, hall, List.getElem?_append_left hi]
  have hlo : all[l.length]? = some lo := by rw [← Array.getElem?_toList, hall, List.getElem?_append_right (Nat.le_refl _)]; simp
  refine wpIn_region_any hm ?_
  generalize hmm : all.size = m
  have hmp : m = l.length + 1 := by have := congrArg List.length hall; simp at this; omega
  have hlen' : rs.length = l.length := hlen
  have key : ∀ (fuel : Nat) (listed : Array Bool) (env1 : Env) (F : Foot) (a : Act) (w : World), listed.size = m →
      cnt (fun j => listed.getD j false) m ≤ fuel → Closed all (fun j => listed.getD j false) → Ext s.n env env1 →
      a.tmps.size = s.sz → DenD env1 s.df a.defers → DenF env1 (over (UF l rs) (fun j => listed.getD j false) m ++ s.fr) a →
      SatH env1 (over (UH rs) (fun j => listed.getD j false) m ++ s.H) F w → Since X Y w0 (over (UH rs) (fun j => listed.getD j false) m ++ s.H) F w →
      listed.getD l.length false = false → (∀ h, s.n ≤ h → (∀ (j : Nat) (r : Rec), rs[j]? = some r → r.n ≤ h → h < r.n' → listed.getD j false = false) → env1 h = none) →
      wpAnyIn (Wd ro) 0 P .any all Q fuel listed a w := by
    intro fuel
    induction fuel with
    | zero =>
      intro listed env1 F a w hls hc hcl hle h1 h2 h3 h4 h5 hlp h6
      have hall : ∀ j, j < m → listed.getD j false = true := cnt_zero (by omega)
      exfalso
      have := hall l.length (by omega)
      rw [hlp] at this; cases this
    | succ fuel ih =>
      intro listed env1 F a w hls hc hcl hle h1 h2 h3 h4 h5 hlp h6
      refine ⟨?_, ?_⟩
      · intro hnil
        -- nothing may come up: all is done
        have hall : ∀ j, j < m → listed.getD j false = true := by
          intro j
          induction j using Nat.strongRecOn with
          | _ j ihj =>
            intro hj
            rcases Bool.eq_false_or_eq_true (listed.getD j false) with hd | hd
            · exact hd
            · exfalso
              have hjs : j < all.size := by omega
              have hmem : j ∈ Region.ready .any all listed := by
                simp only [Region.ready, List.mem_filter, List.mem_range]
                refine ⟨hjs, ?_⟩
                have hja : all[j]? = some all[j] := by simp [hjs]
                have h' : listed.getD j true = false := by
                  have hi' : j < listed.size := by omega
                  simp only [Array.getD, hi', dite_true] at hd ⊢
                  exact hd
                simp only [hja, Option.map_some, Option.getD_some, h', Bool.not_false, Bool.true_and]
                rw [Array.all_eq_true']
                intro e he
                have he' : e ∈ all[j].after.toList := Array.mem_toList_iff.2 he
                cases hb : Region.binds .any e with
                | false => simp
                | true =>
                  have := hord.back j _ hja e he' hb
                  simp [ihj e.on this (by omega)]
              rw [hnil] at hmem
              cases hmem
        exfalso
        have := hall l.length (by omega)
        rw [hlp] at this; cases this
      · intro i hi
        simp only [Region.ready, List.mem_filter, List.mem_range, Bool.and_eq_true, Bool.not_eq_true'] at hi
        obtain ⟨his, hil, hie⟩ := hi
        have him : i < m := by omega
        have hia : all[i]? = some all[i] := by simp [his]
        generalize ho : all[i] = o at hia
        rw [hia] at hie
        simp only [Option.map_some, Option.getD_some] at hie
        rw [Array.all_eq_true'] at hie
        have hedge0 : ∀ p, all[i]? = some p → ∀ e ∈ p.after.toList, Region.binds .any e = true → listed.getD e.on false = true := by
          intro p hp e he hb
          rw [hia] at hp; cases hp
          have := hie e (Array.mem_toList_iff.1 he)
          simpa [hb] using this
        by_cases hip : i = l.length
        · subst hip
          rw [hlo] at hia; cases hia
          have hD : ∀ j, j < l.length → listed.getD j false = true := fun j hj => hanc j hj _ hcl hedge0
          have eF : over (UF l rs) (fun j => listed.getD j false) m = over (UF l rs) (fun _ => true) l.length := by
            rw [hmp, over, hlp]; simp only [Bool.false_eq_true, if_false, List.nil_append]; exact over_congr hD
          have eH : over (UH rs) (fun j => listed.getD j false) m = over (UH rs) (fun _ => true) l.length := by
            rw [hmp, over, hlp]; simp only [Bool.false_eq_true, if_false, List.nil_append]; exact over_congr hD
          have hstep := hq (wpAnyIn (Wd ro) 0 P .any all Q fuel (listed.setIfInBounds l.length true)) env1 F a w hle ⟨by rw [hsz]; exact h1, by rw [hdf]; exact h2, by rw [hfr, ← eF]; exact h3, by rw [hH, ← eH]; exact h4, (by
            intro h hh
            refine h6 h (by omega) ?_
            intro j r hj hr1 hr2
            have := hns j r hj; omega)⟩ (by rw [hH, ← eH]; exact h5)
          unfold wpOpIn
          rw [hlo]
          simp only
          by_cases hw : Region.wanted lo (yielded all a.tmps) = true
          · rw [if_pos hw] at hstep ⊢; exact hstep
          · rw [if_neg hw] at hstep ⊢; exact hstep
        have hil' : i < l.length := by omega
        have hir : ∃ r, rs[i]? = some r := ⟨rs[i], by simp [hlen', hil']⟩
        obtain ⟨r, hr⟩ := hir
        have hok := hrec i o r ((hget i hil').trans hia) hr
        have hDi : listed.getD i false = false := by
          have hi' : i < listed.size := by omega
          simp only [Array.getD, hi', dite_true] at hil ⊢
          exact hil
        have hedge : ∀ p, all[i]? = some p → ∀ e ∈ p.after.toList, Region.binds .any e = true → listed.getD e.on false = true := by
          intro p hp e he hb
          rw [hia] at hp; cases hp
          have := hie e (Array.mem_toList_iff.1 he)
          simpa [hb] using this
        -- who meets i is done just where it stands ahead of i
        have hset : ∀ j, j ≠ i → (Anc all j i ∧ j < i ∨ Anc all i j ∧ i < j) → (fun j => listed.getD j false) j = decide (j < i) := by
          rintro j hne (⟨ha, hlt⟩ | ⟨ha, hlt⟩)
          · simp only [hlt, decide_true]; exact ha _ hcl hedge
          · have : ¬ j < i := by omega
            simp only [this, decide_false]
            rcases Bool.eq_false_or_eq_true (listed.getD j false) with hd | hd
            · have := ha (fun j => listed.getD j false) hcl (fun p hp e he hb => hcl j p hd hp e he hb)
              simp only [hDi] at this; cases this
            · exact hd
        have hUF : ∀ j t, j < m → look (UF l rs j) t ≠ none → ∃ p q, all[j]? = some p ∧ rs[j]? = some q ∧ p.dst = some t := by
          intro j t hj hl
          have hjl : j < l.length := by
            rcases Nat.lt_or_ge j l.length with h' | h'
            · exact h'
            · exfalso
              apply hl
              unfold UF
              rw [List.getElem?_eq_none (by omega)]; rfl
          unfold UF at hl
          rw [hget j hjl] at hl
          cases hp : all[j]? with
          | none => rw [hp] at hl; simp [lookN] at hl
          | some p =>
            cases hq : rs[j]? with
            | none => rw [hp, hq] at hl; simp [lookN] at hl
            | some q =>
              rw [hp, hq] at hl
              cases hd : p.dst with
              | none => simp [upF, hd, lookN] at hl
              | some d =>
                simp only [upF, hd, look_cons, lookN] at hl
                have hdt : d = t := by
                  by_cases hdt : d = t
                  · exact hdt
                  · simp [hdt] at hl
                exact ⟨p, q, rfl, rfl, by rw [hd, hdt]⟩
        have hUH : ∀ j h, look (UH rs j) h ≠ none → ∃ q, rs[j]? = some q ∧ h ∈ q.wr ∧ j < m := by
          intro j h hl
          unfold UH at hl
          cases hq : rs[j]? with
          | none => rw [hq] at hl; simp [lookN] at hl
          | some q =>
            rw [hq] at hl
            cases hx : look q.post h with
            | none => simp [hx] at hl
            | some x =>
              have hjm : j < l.length := by
                rw [← hlen']
                rcases Nat.lt_or_ge j rs.length with h' | h'
                · exact h'
                · simp [List.getElem?_eq_none h'] at hq
              exact ⟨q, rfl, (hrec j l[j] q (by simp) hq).wrs h x hx, by omega⟩
        have hstep := step_ok (ro := ro) (P := P) (all := all) (o := o) (r := r) (fr' := over (UF l rs) (fun j => listed.getD j false) m ++ s.fr)
          (H' := over (UH rs) (fun j => listed.getD j false) m ++ s.H) (env := env1) (F := F) (a := a) (w := w) (w0 := w0) (X := X) (Y := Y) (df := s.df)
          (K := wpAnyIn (Wd ro) 0 P .any all Q fuel (listed.setIfInBounds i true)) (Q := Q) hok h1 h2 h3 h4 h5
          (by
            intro t ht
            have htl := mem_looks ht
            rw [← over_lt (U := UF l rs) (i := i) (m := m) (by omega), look_append, look_append]
            congr 1
            refine over_agree fun j hj hl => ?_
            obtain ⟨p, q, hp, hq, hd⟩ := hUF j t hj hl
            by_cases hji : j = i
            · subst hji; simp only [hDi, Nat.lt_irrefl, decide_false]
            · refine hset j hji ?_
              rcases Nat.lt_or_ge j i with hlt | hge
              · exact .inl ⟨hord.tmps j i p o t hlt hp hia (.inl ⟨hd, .inl htl⟩), hlt⟩
              · exact .inr ⟨hord.tmps i j o p t (by omega) hia hp (.inr ⟨hd, htl⟩), by omega⟩)
          (by
            intro h hh _
            rw [← over_lt (U := UH rs) (i := i) (m := m) (by omega), look_append, look_append]
            congr 1
            refine over_agree fun j hj hl => ?_
            obtain ⟨q, hq, hw, _⟩ := hUH j h hl
            by_cases hji : j = i
            · subst hji; simp only [hDi, Nat.lt_irrefl, decide_false]
            · refine hset j hji ?_
              rcases Nat.lt_or_ge j i with hlt | hge
              · exact .inl ⟨hord.hds j i q r h hlt hq hr (.inl ⟨hw, hh⟩), hlt⟩
              · refine .inr ⟨hord.hds i j r q h (by omega) hr hq ?_, by omega⟩
                rcases hh with hh | hh
                · exact .inr ⟨hh, hw⟩
                · exact .inl ⟨hh, .inr hw⟩)
          (by
            intro h hh1 hh2
            refine h6 h (by have := (hns i r hr).1; omega) ?_
            intro j q hj hq1 hq2
            rcases Nat.lt_trichotomy i j with hlt | heq | hgt
            · have := hdis i j r q hlt hr hj; omega
            · subst heq; exact hDi
            · have := hdis j i q r hgt hj hr; omega)
          (by
            intro env' F' a' w' hle' honly k1 k2 k3 k4 k5
            have hD' : ∀ j, (listed.setIfInBounds i true).getD j false = if j = i then true else listed.getD j false := by
              intro j
              by_cases hji : j = i
              · subst hji; simp [Array.getD_eq_getD_getElem?, hls, him]
              · have : i ≠ j := fun e => hji e.symm
                simp [Array.getD_eq_getD_getElem?, Array.getElem?_setIfInBounds_ne this, hji]
            have hDii : (listed.setIfInBounds i true).getD i false = true := by rw [hD']; simp
            have hDo : ∀ j, j ≠ i → (listed.setIfInBounds i true).getD j false = listed.getD j false := fun j hj => by rw [hD']; simp [hj]
            have eF : ∀ t, look (over (UF l rs) (fun j => (listed.setIfInBounds i true).getD j false) m ++ s.fr) t = look (upF o r ++ (over (UF l rs) (fun j => listed.getD j false) m ++ s.fr)) t := by
              intro t
              have hU : UF l rs i = upF o r := by unfold UF; rw [hget i hil', hia, hr]
              rw [look_append, look_append, look_append, over_insert (D := fun j => listed.getD j false) hDi hDii hDo him ?_, hU, Option.or_assoc]
              intro j hij hj hdj hne
              rw [Classical.byContradiction (p := look (UF l rs j) t = none)]
              intro hne'
              obtain ⟨p, q, hp, hq, hd⟩ := hUF j t hj hne'
              obtain ⟨p', q', hp', hq', hd'⟩ := hUF i t him hne
              rw [hia] at hp'; cases hp'
              have := hset j (by omega) (.inr ⟨hord.tmps i j o p t hij hia hp (.inl ⟨hd', .inr hd⟩), hij⟩)
              have hn : ¬ j < i := by omega
              simp only [hdj, hn, decide_false] at this
              cases this
            have eH : ∀ t, look (over (UH rs) (fun j => (listed.setIfInBounds i true).getD j false) m ++ s.H) t = look (r.post ++ (over (UH rs) (fun j => listed.getD j false) m ++ s.H)) t := by
              intro t
              have hU : UH rs i = r.post := by unfold UH; rw [hr]
              rw [look_append, look_append, look_append, over_insert (D := fun j => listed.getD j false) hDi hDii hDo him ?_, hU, Option.or_assoc]
              intro j hij hj hdj hne
              rw [Classical.byContradiction (p := look (UH rs j) t = none)]
              intro hne'
              obtain ⟨q, hq, hw, _⟩ := hUH j t hne'
              obtain ⟨q', hq', hw', _⟩ := hUH i t hne
              rw [hr] at hq'; cases hq'
              have := hset j (by omega) (.inr ⟨hord.hds i j r q t hij hr hq (.inl ⟨hw', .inr hw⟩), hij⟩)
              have hn : ¬ j < i := by omega
              simp only [hdj, hn, decide_false] at this
              cases this
            refine ih (listed.setIfInBounds i true) env' F' a' w' (by simp [hls]) ?_ ?_ (hle.trans ⟨hle', fun x hx => honly x (by have := (hns i r hr).1; omega)⟩ (Nat.le_refl _)) k1 k2 ?_ (k4.congr eH) (k5.congr eH) (by rw [hDo _ (by omega)]; exact hlp) ?_
            · have := cnt_insert (D := fun j => listed.getD j false) (D' := fun j => (listed.setIfInBounds i true).getD j false) hDi hDii hDo him
              omega
            · intro k p hk hp e he hb
              by_cases hki : k = i
              · subst hki
                have h' := hedge p hp e he hb
                show (listed.setIfInBounds k true).getD e.on false = true
                rw [hD']; split
                · rfl
                · exact h'
              · have hk : (listed.setIfInBounds i true).getD k false = true := hk
                rw [hDo k hki] at hk
                have h' := hcl k p hk hp e he hb
                show (listed.setIfInBounds i true).getD e.on false = true
                rw [hD']; split
                · rfl
                · exact h'
            · intro t v hl
              exact k3 t v ((eF t).symm.trans hl)
            · intro h hh hfr
              have hi' : ¬ (r.n ≤ h ∧ h < r.n') := by
                rintro ⟨x1, x2⟩
                have := hfr i r hr x1 x2
                rw [hDii] at this; cases this
              rw [honly h hi']
              refine h6 h hh ?_
              intro j q hj x1 x2
              by_cases hji : j = i
              · subst hji; exact hDi
              · have := hfr j q hj x1 x2
                rwa [hDo j hji] at this)
        unfold wpOpIn
        rw [hia]
        simp only
        by_cases hw : Region.wanted o (yielded all a.tmps) = true
        · rw [if_pos hw] at hstep ⊢; exact hstep
        · rw [if_neg hw] at hstep ⊢; exact hstep
  have hD0 : ∀ j, (Array.replicate m false).getD j false = false := by
    intro j; simp only [Array.getD_eq_getD_getElem?]
    rcases Nat.lt_or_ge j m with hj | hj <;> simp [hj]
  have e0 : ∀ {α : Type} (U : Nat → List (Nat × α)), over U (fun j => (Array.replicate m false).getD j false) m = [] := by
    intro α U
    rw [over_congr (D' := fun _ => false) (fun j _ => hD0 j)]
    clear hmm hlen' hD0 key hmp
    induction m with
    | zero => rfl
    | succ m ih => simp [over, ih]
  refine key m (Array.replicate m false) env F a _ (by simp) ?_ ?_ (Ext.refl _ _) hs.size hs.defers ?_ ?_ ?_ (hD0 _) ?_
  · clear hmm hlen' hD0 e0 key
    have : ∀ (D : Nat → Bool) k, cnt D k ≤ k := by
      intro D k; induction k with
      | zero => simp [cnt]
      | succ k ih => simp only [cnt]; split <;> omega
    exact this _ _
  · intro k o hk
    have hk : (Array.replicate m false).getD k false = true := hk
    rw [hD0] at hk; cases hk
  · rw [e0]; exact hs.val
  · rw [e0]; exact hs.heap.drew
  · rw [e0]; exact ⟨⟨hsi.frame.os, hsi.frame.tape, hsi.frame.output, hsi.frame.size, hsi.frame.block⟩, hsi.own⟩
  · intro h hh _; exact hs.fresh h hh

end
end Go.SX

namespace Go.SX
noncomputable section

/-- How a call ends: with a value, or in a panic. -/
inductive Out where
  | ret (v : AV)
  | pan (x : Value)

def OutIs (env : Env) : Out → Ending → Prop
  | .ret v, e => ∃ x, e = .returned x ∧ Den env v x
  | .pan x, e => e = .panicked [{ v := x, recovered := false }]

/-- A contract that tells how the call ends. -/
def CtrE (P : Program) (f : FuncId) (args : List AV) (R pre : Heap) (n n' : Nat) (o : Out) (post : Heap) : Prop :=
  HasBody P f = true ∧ n ≤ n' ∧ domB pre post = true ∧ ∀ (env : Env) (F : Foot) (w : World) (xs : Array Value), Dens env args xs.toList → SatH env (pre ++ R) F w → (∀ h, n ≤ h → h < n' → env h = none) →
    Calls P f xs w fun e w' => ∃ env' F', Turn n n' R pre post env F w env' F' w' ∧ OutIs env' o e

theorem CtrE.ctr {P : Program} {f : FuncId} {args : List AV} {R pre post : Heap} {n n' : Nat} {v : AV} (h : CtrE P f args R pre n n' (.ret v) post) : Ctr P f args R pre n n' v post := by
  obtain ⟨h1, h2, h3, h4⟩ := h
  refine ⟨h1, h2, h3, fun env F w xs a b c => (h4 env F w xs a b c).mono ?_⟩
  rintro e w' ⟨env', F', t, x, rfl, hx⟩
  exact ⟨env', F', x, rfl, t, hx⟩

/-- What an operation does that panics. -/
def TripleP (P : Program) (o : Oper) (fr : Fr) (R pre : Heap) (n n' : Nat) (x : Value) (post : Heap) : Prop :=
  ∀ (env : Env) (F : Foot) (a : Act) (w : World) (next : Act → World → Prop) (Q : Exit → Act → World → Prop),
    Need env o fr a → SatH env (pre ++ R) F w → (∀ h, n ≤ h → h < n' → env h = none) →
    (∀ env' F' w', Turn n n' R pre post env F w env' F' w' → Q (.panic [{ v := x, recovered := false }]) a w') → o.wp P a w next Q

/-- An operation that panics, in a state. -/
structure PanAt (P : Program) (o : Oper) (s : St) (R pre post : Heap) (n' : Nat) (x : Value) : Prop where
  nle : s.n ≤ n'
  nd : ∀ c, o.op ≠ .defer c
  guard : o.guard = none
  op : TripleP P o s.fr R pre s.n n' x post
  subR : Sub R s.H
  subp : Sub pre s.H
  dom : ∀ h y, look pre h = some y → ∃ y', look post h = some y'

def St.at (s : St) (post : Heap) (n' : Nat) : St := { s with H := post ++ s.H, n := n' }

theorem pan_step {P : Program} {ro : Option Nat} {all : Array Oper} {o : Oper} {s : St} {R pre post : Heap} {n' : Nat} {x : Value} (h : PanAt P o s R pre post n' x) {X Y : Nat → Prop} {w0 : World}
    {env : Env} {F : Foot} {a : Act} {w : World} {K : Act → World → Prop} {Q : Exit → Act → World → Prop} (hs : SatS env s F a w) (hsi : Since X Y w0 s.H F w)
    (hq : ∀ env' F' w', Ext s.n env env' → SatS env' (s.at post n') F' a w' → Since X Y w0 (post ++ s.H) F' w' → Q (.panic [{ v := x, recovered := false }]) a w') :
    if Region.wanted o (yielded all a.tmps) = true then o.wpIn (Wd ro) 0 P a w K Q else (∀ f, o.about P w a.eval = some f → (Wd ro).fn f) ∧ K (a.put o.dst undef) w := by
  have hw : Region.wanted o (yielded all a.tmps) = true := by unfold Region.wanted; rw [h.guard]
  rw [if_pos hw]
  refine op_wd (.inl h.nd) (h.op env F a w K Q (fun t _ v hv => hs.val t v hv) ?_ (fun k h1 _ => hs.fresh k h1) ?_)
  · refine hs.heap.part ?_
    intro k y hl
    rw [look_append] at hl
    cases hq : look pre k with
    | some z => rw [hq] at hl; simp at hl; subst hl; exact h.subp _ _ hq
    | none => rw [hq] at hl; simp at hl; exact h.subR _ _ hl
  · intro env' F' w' t
    obtain ⟨F'', q1, q2⟩ := turn_step t hs.heap hsi h.subR h.subp h.dom
    refine hq env' F'' w' ⟨t.le, fun k hk => t.only k (by omega)⟩ ⟨hs.size, hs.defers.mono t.le, ?_, q1, ?_⟩ q2
    · intro t' v hv
      obtain ⟨y, h1, h2⟩ := hs.val t' v hv
      exact ⟨y, h1, Den.mono t.le v h2⟩
    · intro k hk
      have hk : n' ≤ k := hk
      have := h.nle
      rw [t.only k (by omega)]; exact hs.fresh k (by omega)

/-- The first operations of a list. -/
theorem seq_prefix {P : Program} {ro : Option Nat} {all : Array Oper} {Q : Exit → Act → World → Prop} {X Y : Nat → Prop} {w0 : World} {ops m : List Oper} {s s' : St} {rs : List Rec} (h : Run P all ops s rs s') :
    ∀ {env : Env} {F : Foot} {a : Act} {w : World}, SatS env s F a w → Since X Y w0 s.H F w →
      (∀ env' F' a' w', Ext s.n env env' → SatS env' s' F' a' w' → Since X Y w0 s'.H F' w' → wpListIn (Wd ro) 0 P all Q m a' w') → wpListIn (Wd ro) 0 P all Q (ops ++ m) a w := by
  induction h with
  | nil => intro env F a w hs hsi hq; exact hq env F a w (Ext.refl _ _) hs hsi
  | @cons o l s s' r rs hr hn h ih =>
    intro env F a w hs hsi hq
    rw [List.cons_append]
    refine wpListIn_step fun K hK => ?_
    refine step_ok hr hs.size hs.defers hs.val hs.heap hsi (fun _ _ => rfl) (fun _ _ _ => rfl) (fun h h1 _ => hs.fresh h (by omega)) ?_
    intro env' F' a' w' hle honly h1 h2 h3 h4 h5
    refine hK a' w' (ih (env := env') (F := F') ⟨h1, h2, h3, h4, ?_⟩ h5 (fun e F a w hle' => hq e F a w (Ext.trans ⟨hle, fun x hx => honly x (by omega)⟩ hle' (by have := hr.nle; simp only [St.app]; omega))))
    intro h hge
    simp only [St.app] at hge
    have := hr.nle
    rw [honly h (by omega)]; exact hs.fresh h (by omega)

/-- A value that holds no handle. -/
def cloV : AV → Option Value
  | .iface t (.int k n) => some (.iface t (.int k n))
  | .iface t (.str s) => some (.iface t (.string s))
  | .iface t (.agg [.int k n]) => some (.iface t (.agg #[.int k n]))
  | _ => none

theorem cloV_den {v : AV} {x y : Value} (h : cloV v = some x) {env : Env} (hd : Den env v y) : y = x := by
  unfold cloV at h
  split at h
  · cases h; simp only [Den] at hd; obtain ⟨z, rfl, rfl⟩ := hd; rfl
  · cases h; simp only [Den] at hd; obtain ⟨z, rfl, rfl⟩ := hd; rfl
  · cases h; simp only [Den, Dens] at hd
    obtain ⟨z, rfl, xs, rfl, u, us, hxs, rfl, rfl⟩ := hd
    have := congrArg List.toArray hxs
    simp only [Array.toArray_toList] at this
    rw [this]
  · cases h

/-- 'panic' with such a value. -/
theorem triple_panic {P : Program} {o : Oper} {fr : Fr} {n : Nat} {x : Operand} {v : AV} {y : Value} (ho : o.op = .panic x) (hv : ev fr x = some v) (hc : cloV v = some y) : TripleP P o fr [] [] n n y [] := by
  intro env F a w next Q hn hs hf hk
  have hd := ev_den hn (by rw [ho]; simp [Op.operands]) hv
  have hy := cloV_den hc hd
  have hi : ∃ t z, y = .iface t z := by
    unfold cloV at hc
    split at hc <;> cases hc <;> exact ⟨_, _, rfl⟩
  obtain ⟨t, z, hi⟩ := hi
  unfold Oper.wp
  have hrun : (execOp a.eval o).run P w = .halt (.panic y) w := by
    simp only [execOp, ho, hy, hi]
    rfl
  rw [hrun]
  exact hk env F w (by
    have := Turn.refl n [] env F w
    exact this)

abbrev CallX := FuncId → List AV → Heap → Heap → Nat → Got (Out × Heap × Nat)
def CallXOK (P : Program) (C : CallX) : Prop := ∀ {g vs pre R n o post n'}, C g vs pre R n = .ok (o, post, n') → CtrE P g vs R pre n n' o post

/-- The last operation, if it may panic: all others must come ahead of it. -/
def lastO (l : List Oper) : Option (List Oper × Oper) :=
  match l.reverse with
  | [] => none
  | o :: r => some (r.reverse, o)

theorem lastO_eq {l m : List Oper} {o : Oper} (h : lastO l = some (m, o)) : l = m ++ [o] := by
  unfold lastO at h
  split at h
  · cases h
  · rename_i o' r hr
    cases h
    have := congrArg List.reverse hr
    simpa using this

def ancB (ops : List Oper) (p : Nat) : Bool := (List.range p).all fun i => ((bef ops).getD p 0).testBit i

theorem ancB_ok {all : Array Oper} {p : Nat} (h : ancB all.toList p = true) : ∀ i, i < p → Anc all i p := by
  intro i hi
  have := List.all_eq_true.1 h i (List.mem_range.2 hi)
  exact bef_anc this

/-- Does an operation call one of these functions, or panic itself? -/
def isX (X : List Nat) (o : Oper) : Bool :=
  match o.guard with
  | some _ => false
  | none => match o.op with
    | .panic _ => true
    | .call { callee := .value (.func g), args := _, argTypes := _ } => X.any (Nat.beq g)
    | _ => false

theorem callE_at {P : Program} {g : FuncId} {vs : List AV} {R pre post : Heap} {n n' : Nat} {x : Value} (spec : CtrE P g vs R pre n n' (.pan x) post) {o : Oper} {fr : Fr} (hcall : IsCall o fr g vs) : TripleP P o fr R pre n n' x post := by
  obtain ⟨hbody, _, _, spec⟩ := spec
  intro env F a w next Q hneed hsat hfresh hk
  obtain ⟨xs, hx, hrun⟩ := evs_call hneed hcall
  have hC := spec env F w xs hx hsat hfresh
  unfold Oper.wp
  rw [hrun, hasBody_run hbody]
  refine Calls.mono hC ?_
  rintro e w' ⟨env', F', t, he⟩
  simp only [OutIs] at he
  subst he
  exact hk env' F' w' t

/-- The last operation: a panic, or a call that may panic. -/
def lastX (C : CallX) {β : Type} (o : Oper) (s : St) (K : St → Got β) (Pn : List PanicEntry → St → Got β) : Got β :=
  match s with
  | ⟨fr, H, n, sz, df, log, b⟩ => match o.op with
    | .panic x => match ev fr x with
      | some v => match cloV v with
        | some y => Pn [{ v := y, recovered := false }] ⟨fr, [] ++ H, n, sz, df, log, b⟩
        | none => .no (.op o ⟨fr, H, n, sz, df, log, b⟩)
      | none => .no .bad
    | .call { callee := .value f, args := xs, argTypes := _ } => match ev fr f, evs fr xs.toList with
      | some (.fn (.func g) l m), some us => spine (l ++ (us ++ m)) fun vs => match reach H far (hsL vs [0]) 0 [] with
        | none => .no .fuel
        | some acc => match C g vs (filterR acc exB) (filterR acc roP) n with
          | .no w => .no (.call g w)
          | .ok (.ret v, post, n') => appK post H fun H' => putM (base β) o v fr H' n' sz df log b (keysR (filterR acc roP)) (keysR post) K
          | .ok (.pan y, post, n') => Pn [{ v := y, recovered := false }] ⟨fr, post ++ H, n', sz, df, log, b⟩
      | _, _ => .no (.op o ⟨fr, H, n, sz, df, log, b⟩)
    | _ => .no (.op o ⟨fr, H, n, sz, df, log, b⟩)

theorem lastX_ok {P : Program} {C : CallX} (hC : CallXOK P C) {β : Type} {x : β} {o : Oper} {s : St} {K : St → Got β} {Pn : List PanicEntry → St → Got β} (hg : o.guard = none) (h : lastX C o s K Pn = .ok x) :
    Stop P o s (fun s => K s = .ok x) ∨ ∃ R pre post n' y, PanAt P o s R pre post n' y ∧ Pn [{ v := y, recovered := false }] (s.at post n') = .ok x := by
  obtain ⟨fr, H, n, sz, df, log, b⟩ := s
  unfold lastX at h
  simp only at h
  split at h
  · rename_i x0 ho
    split at h
    · rename_i v hv
      split at h
      · rename_i y hy
        exact .inr ⟨[], [], [], n, y, ⟨Nat.le_refl _, by simp [ho], hg, triple_panic ho hv hy, sub_nil, sub_nil, by simp [lookN]⟩, h⟩
      · cases h
    · cases h
  · rename_i f xs ts ho
    split at h
    · rename_i g l m us hf hu
      rw [spine_eq] at h
      have hcall : IsCall o fr g (l ++ (us ++ m)) := ⟨_, f, l, us, m, ho, rfl, hf, hu, rfl⟩
      split at h
      · cases h
      · rename_i acc hacc
        have hmem := reach_mem (by simp) hacc
        split at h
        · cases h
        · rename_i v post n' hc
          rw [appK_eq, keysR_eq, keysR_eq] at h
          obtain ⟨k1, k2⟩ := putM_iff (baseOK P x) h
          have hspec := (hC hc).ctr
          exact .inl ⟨⟨true, filterR acc roP, filterR acc exB, post, n, n', v, keysOf (filterR acc roP), keysOf post⟩, rfl, rfl, hspec.2.1, k1, (call_at hspec hcall).y, sub_filter hmem _, sub_filter hmem _, domB_ok hspec.2.2.1,
            fun k x hk => look_map_dom hk, fun k x hk => look_map_dom hk, k2⟩
        · rename_i y post n' hc
          have hspec := hC hc
          exact .inr ⟨filterR acc roP, filterR acc exB, post, n', y, ⟨hspec.2.1, by simp [ho], hg, callE_at hspec hcall, sub_filter hmem _, sub_filter hmem _, domB_ok hspec.2.2.1⟩, h⟩
    · cases h
  · cases h

end
end Go.SX

namespace Go.SX
noncomputable section

theorem Run.snoc {P : Program} {all : Array Oper} {l : List Oper} {s s' : St} {rs : List Rec} (h : Run P all l s rs s') : ∀ {o : Oper} {r : Rec}, RecOK P all s'.sz o s'.fr s'.H r → r.n = s'.n → Run P all (l ++ [o]) s (rs ++ [r]) (s'.app o r) := by
  induction h with
  | nil => intro o r hr hn; exact .cons hr hn .nil
  | cons hr hn _ ih => intro o r hr' hn'; exact .cons hr hn (ih hr' hn')

theorem stop_rec {P : Program} {all : Array Oper} {o : Oper} {s : St} {K : St → Prop} (hg : o.guard = none) (h : Stop P o s K) : ∃ r, RecOK P all s.sz o s.fr s.H r ∧ r.n = s.n ∧ K (s.app o r) := by
  obtain ⟨r, h1, h2, h3, h4, h5, h6, h7, h8, h9, h10, h11⟩ := h
  exact ⟨r, ⟨h4, by simp [guardV, hg, h1], h3, fun e => (by rw [h1] at e; cases e), fun _ => h5, fun _ => h6, fun _ => h7, h8, h9, h10⟩, h2, h11⟩

section
variable (T : Tab) (E : Hs) (pu : Pure) (C : CallX) (X : List Nat)

def drawK {β : Type} (draw : Bool) (b : Bool) (a : Got β) : Got β :=
  match draw, b with
  | true, false => .no .bad
  | _, _ => a

theorem drawK_ok {β : Type} {draw b : Bool} {a : Got β} {x : β} (h : drawK draw b a = .ok x) : (draw = true → b = true) ∧ a = .ok x := by
  unfold drawK at h
  split at h
  · cases h
  · rename_i hne
    refine ⟨?_, h⟩
    intro hd
    cases b with
    | true => rfl
    | false => exact absurd rfl (hne hd)

def regX {β : Type} (ops : Array Oper) (draw : Bool) (Q : Exit → St → Got β) (s : St) : Got β :=
  match s with
  | ⟨fr, H, n, sz, df, _, b⟩ => match lastO ops.toList with
    | none => Q .normal ⟨fr, H, n, sz, df, [], b⟩
    | some (l, o) => match isX X o with
      | true => vcOps (Get T E pu none β) T ops l ⟨fr, H, n, sz, df, [], b⟩ fun s1 =>
          drawK draw (raceB ops.toList s1.log && ancB ops.toList l.length) (lastX C o s1 (fun s2 => drawK draw (raceB ops.toList s2.log) (Q .normal s2)) (fun ch s2 => Q (.panic ch) s2))
      | false => match draw with
        | true => vcOps (Get T E pu none β) T ops ops.toList ⟨fr, H, n, sz, df, [], b⟩ (regQ (Get T E pu none β) ops true Q)
        | false => vcOpsD (Get T E pu none β) T ops ops.toList ⟨fr, H, n, sz, df, [], b⟩ (Q .normal)

def codeX {β : Type} (c : Code) : (Exit → St → Got β) → St → Got β := Code.rec (motive := fun _ => (Exit → St → Got β) → St → Got β)
  (fun Q s => Q .normal s)
  (fun _ ops draw Q s => regX T E pu C X ops draw Q s)
  (fun _ _ ihx ihy Q s => ihx (seqQ (ihy Q) Q) s)
  (fun c _ _ ihx ihy Q s => match c, s with
    | .tmp t, ⟨fr, H, n, sz, df, log, b⟩ => match look fr t with
      | some (.bool v) => match v with
        | true => ihx Q ⟨fr, H, n, sz, df, log, b⟩
        | false => ihy Q ⟨fr, H, n, sz, df, log, b⟩
      | _ => .no .bad
    | .const (.bool v), s => match v with
      | true => ihx Q s
      | false => ihy Q s
    | _, _ => .no .bad)
  (fun id _ ih Q s => ih (blockQ id Q) s)
  (fun _ ih Q s => roundsC ih Q far s)
  (fun _ _ _ b _ _ _ _ => .no (.code b))
  (fun i Q s => Q (.exit i) s)
  (fun b ih Q s => match noGoto b with
    | true => ih (scopeQ (base β) Q) s
    | false => .no (.code b))
  (fun _ Q s => Q .normal s)
  (fun l Q s => Q (.goto l) s)
  (fun Q s => Q .ret s)
  (fun _ _ _ => .no .bad) c

theorem codeX_cond {β : Type} (c : Operand) (x y : Code) (Q : Exit → St → Got β) (s : St) : codeX T E pu C X (.cond c x y) Q s = (match c, s with
    | .tmp t, ⟨fr, H, n, sz, df, log, b⟩ => match look fr t with
      | some (.bool v) => match v with
        | true => codeX T E pu C X x Q ⟨fr, H, n, sz, df, log, b⟩
        | false => codeX T E pu C X y Q ⟨fr, H, n, sz, df, log, b⟩
      | _ => .no .bad
    | .const (.bool v), s => match v with
      | true => codeX T E pu C X x Q s
      | false => codeX T E pu C X y Q s
    | _, _ => .no .bad) := rfl
theorem codeX_scope {β : Type} (b : Code) (Q : Exit → St → Got β) (s : St) : codeX T E pu C X (.scope b) Q s = (match noGoto b with
    | true => codeX T E pu C X b (scopeQ (base β) Q) s
    | false => .no (.code b)) := rfl
end

theorem codeX_sound {P : Program} {T : Tab} (hT : TabOK P T) (hm : P.follows .mixedOrders = true) {E : Hs} (hE : HsOK P E) {pu : Pure} (hp : PureOK P pu) {C : CallX} (hC : CallXOK P C) {X : List Nat} {β : Type} (x : β) :
    ∀ (c : Code) {Q : Exit → St → Got β} {s : St}, codeX T E pu C X c Q s = .ok x → staticC c = true → Sem P none c (fun e s => Q e s = .ok x) s
  | .skip, Q, s, h, _ => fun X Y w0 env0 ro Qc env F a w hro hb hbase hs hsi hq => wpIn_skip (hq _ _ _ _ _ _ h rfl rfl hb hbase hs hsi)
  | .label _, Q, s, h, _ => fun X Y w0 env0 ro Qc env F a w hro hb hbase hs hsi hq => wpIn_label (hq _ _ _ _ _ _ h rfl rfl hb hbase hs hsi)
  | .exit i, Q, s, h, _ => fun X Y w0 env0 ro Qc env F a w hro hb hbase hs hsi hq => wpIn_exit (hq _ _ _ _ _ _ h rfl rfl hb hbase hs hsi)
  | .goto i, Q, s, h, _ => fun X Y w0 env0 ro Qc env F a w hro hb hbase hs hsi hq => wpIn_goto (hq _ _ _ _ _ _ h rfl rfl hb hbase hs hsi)
  | .ret, Q, s, h, _ => fun X Y w0 env0 ro Qc env F a w hro hb hbase hs hsi hq => wpIn_ret (hq _ _ _ _ _ _ h rfl rfl hb hbase hs hsi)
  | .refuse _, _, _, h, _ => by cases h
  | .rangeFunc f ps as b, Q, s, h, hst => by cases h
  | .loop b, Q, s, h, hst => roundsC_sound (fun {_ _} h => codeX_sound hT hm hE hp hC x b h hst) _ h
  | .scope b, Q, s, h, hst => by
    rw [codeX_scope] at h
    split at h
    · have ih := codeX_sound hT hm hE hp hC x b h hst
      intro X Y w0 env0 ro Qc env F a w hro hb hbase hs hsi hq
      refine wpIn_scope_straight (ih X Y w0 env0 ro _ env F a w hro hb hbase hs hsi ?_)
      intro e s' env' F' a' w' hQ h1 h2 h3 h4 h5 h6
      cases e with
      | goto l => cases hQ
      | _ => exact hq _ _ _ _ _ _ hQ h1 h2 h3 h4 h5 h6
    · cases h
  | .block id b, Q, s, h, hst => by
    have ih := codeX_sound hT hm hE hp hC x b (Q := blockQ id Q) h hst
    intro X Y w0 env0 ro Qc env F a w hro hb hbase hs hsi hq
    refine wpIn_block (ih X Y w0 env0 ro _ env F a w hro hb hbase hs hsi ?_)
    intro e s' env' F' a' w' hQ h1 h2 h3 h4 h5 h6
    cases e with
    | exit i =>
      simp only [blockQ] at hQ
      split at hQ
      · rename_i hb'
        have := Nat.eq_of_beq_eq_true hb'
        subst this
        simp only [Exit.inBlock, if_true]
        exact hq _ _ _ _ _ _ hQ h1 h2 h3 h4 h5 h6
      · rename_i hb'
        have : i ≠ id := by rintro rfl; simp [Nat.beq_refl] at hb'
        simp only [Exit.inBlock, this, if_false]
        exact hq _ _ _ _ _ _ hQ h1 h2 h3 h4 h5 h6
    | _ => exact hq _ _ _ _ _ _ hQ h1 h2 h3 h4 h5 h6
  | .seq a b, Q, s, h, hst => by
    simp only [staticC, Bool.and_eq_true] at hst
    have ihx := codeX_sound hT hm hE hp hC x a (Q := seqQ (codeX T E pu C X b Q) Q) h hst.1
    intro X Y w0 env0 ro Qc env F ac w hro hb hbase hs hsi hq
    refine wpIn_seq (ihx X Y w0 env0 ro _ env F ac w hro hb hbase hs hsi ?_)
    intro e s' env' F' a' w' hQ h1 h2 h3 h4 h5 h6
    cases e with
    | normal =>
      refine codeX_sound hT hm hE hp hC x b hQ hst.2 X Y w0 env0 ro Qc env' F' a' w' (by rw [h1]; exact hro) h3 h4 h5 h6 ?_
      intro e s2 env2 F2 a2 w2 q k1 k2 k3 k4 k5 k6
      exact hq _ _ _ _ _ _ q (k1.trans h1) (k2.trans h2) k3 k4 k5 k6
    | _ => exact hq _ _ _ _ _ _ hQ h1 h2 h3 h4 h5 h6
  | .cond c a b, Q, s, h, hst => by
    simp only [staticC, Bool.and_eq_true] at hst
    intro X Y w0 env0 ro Qc env F ac w hro hb hbase hs hsi hq
    rw [codeX_cond] at h
    split at h
    · rename_i t fr H n sz df log b'
      split at h
      · rename_i v hl
        obtain ⟨z, hz, hd⟩ := hs.val t _ hl
        simp only [Den] at hd
        subst hd
        have he : ac.eval (.tmp t) = .bool v := by simp [Act.eval, Array.getD_eq_getD_getElem?, hz]
        refine wpIn_cond he ?_
        cases v with
        | true => exact codeX_sound hT hm hE hp hC x a h hst.1 X Y w0 env0 ro Qc env F ac w hro hb hbase hs hsi hq
        | false => exact codeX_sound hT hm hE hp hC x b h hst.2 X Y w0 env0 ro Qc env F ac w hro hb hbase hs hsi hq
      · cases h
    · rename_i v
      have he : ac.eval (.const (.bool v)) = .bool v := rfl
      refine wpIn_cond he ?_
      cases v with
      | true => exact codeX_sound hT hm hE hp hC x a h hst.1 X Y w0 env0 ro Qc env F ac w hro hb hbase hs hsi hq
      | false => exact codeX_sound hT hm hE hp hC x b h hst.2 X Y w0 env0 ro Qc env F ac w hro hb hbase hs hsi hq
    · cases h
  | .region id ops draw, Q, s, h, hst => by
    obtain ⟨fr, H, n, sz, df, log, b⟩ := s
    intro X1 Y w0 env0 ro Qc env F a w hro hb hbase hs hsi hq
    obtain rfl := hro.none_
    have hs0 : SatS env ⟨fr, H, n, sz, df, [], b⟩ F a w := ⟨hs.size, hs.defers, hs.val, hs.heap, hs.fresh⟩
    have fin : ∀ {e : Exit} {s' : St}, s'.b = b → s'.sz = sz → n ≤ s'.n → ∀ (env' : Env) (F' : Foot) (a' : Act) (w' : World), Q e s' = .ok x → Ext n env env' → SatS env' s' F' a' w' → Since X1 Y w0 s'.H F' w' → Qc e a' w' := by
      intro e s' g2 g1 g3 env' F' a' w' hQ he hs' hsi'
      refine hq _ _ _ _ _ _ hQ g2 g1 ?_ ?_ hs' hsi'
      · simp only at g2 g3 hb; omega
      · intro k hk'
        rw [g2] at hk'
        simp only at hb hk' hbase
        rw [he.old k (by omega)]
        exact hbase k hk'
    have hR : regX T E pu C X ops draw Q ⟨fr, H, n, sz, df, log, b⟩ = .ok x := h
    clear h
    have hZ := getOK hT hm hE hp (rh := none) x 4
    unfold regX at hR
    simp only at hR
    split at hR
    · rename_i hl
      have hops : ops.toList = [] := by
        unfold lastO at hl
        split at hl
        · rename_i hr; simpa using congrArg List.reverse hr
        · cases hl
      cases draw with
      | false =>
        refine wpIn_region_list ?_
        rw [hops]
        exact fin rfl rfl (Nat.le_refl _) env F a w hR (Ext.refl _ _) hs0 hsi
      | true =>
        have hord : Ordered ops [] := by
          refine ordered_of hst ?_
          rfl
        have hrun : Run P ops ops.toList ⟨fr, H, n, sz, df, [], b⟩ [] ⟨fr, H, n, sz, df, [], b⟩ := by rw [hops]; exact .nil
        exact draw_sound hm hrun hord hs0 hsi fun env' F' a' w' he hs' hsi' => fin rfl rfl (Nat.le_refl _) env' F' a' w' hR he hs' hsi'
    · rename_i l o hl
      have hall := lastO_eq hl
      split at hR
      · rename_i hx
        have hg : o.guard = none := by
          unfold isX at hx
          split at hx
          · cases hx
          · assumption
        obtain ⟨rs, s1, hrun, hk⟩ := vcOps_run hT hZ.toOpAns hR
        obtain ⟨hd1, hkk⟩ := drawK_ok hk
        obtain ⟨g0, g1, -, g2, g3, -, -, -, -, -, g4⟩ := hrun.facts
        simp only [List.append_nil] at g4
        rcases lastX_ok hC hg hkk with hst1 | ⟨R, pre, post, n', y, hpan, hQ⟩
        · -- it comes back
          obtain ⟨r, hr, hn, hk2⟩ := stop_rec (all := ops) hg hst1
          obtain ⟨hd2, hk3⟩ := drawK_ok hk2
          have hrun2 := hrun.snoc hr hn
          rw [← hall] at hrun2
          obtain ⟨-, q1, -, q2, q3, -, -, -, -, -, q4⟩ := hrun2.facts
          cases draw with
          | false =>
            refine wpIn_region_list (seq_sound hrun2 hs0 hsi fun env' F' a' w' he hs' hsi' => fin q2 q1 q3 env' F' a' w' hk3 he hs' hsi')
          | true =>
            have hord : Ordered ops (rs ++ [r]) := by
              refine ordered_of hst ?_
              simp only [List.append_nil] at q4
              rw [← q4]; exact hd2 rfl
            exact draw_sound hm hrun2 hord hs0 hsi fun env' F' a' w' he hs' hsi' => fin q2 q1 q3 env' F' a' w' hk3 he hs' hsi'
        · -- it panics
          have step : ∀ (K : Act → World → Prop) env' F' a' w', Ext n env env' → SatS env' s1 F' a' w' → Since X1 Y w0 s1.H F' w' →
              if Region.wanted o (yielded ops a'.tmps) = true then o.wpIn (Wd none) 0 P a' w' K Qc else (∀ f, o.about P w' a'.eval = some f → (Wd none).fn f) ∧ K (a'.put o.dst undef) w' := by
            intro K env' F' a' w' he hs' hsi'
            refine pan_step hpan hs' hsi' ?_
            intro env2 F2 w2 he2 hs2 hsi2
            refine fin (s' := s1.at post n') g2 g1 ?_ env2 F2 a' w2 hQ (he.trans he2 ?_) hs2 hsi2
            · have := hpan.nle; simp only at g3; exact Nat.le_trans g3 this
            · exact g3
          cases draw with
          | false =>
            refine wpIn_region_list ?_
            rw [hall]
            exact seq_prefix hrun hs0 hsi fun env' F' a' w' he hs' hsi' => wpListIn_step fun K _ => step K env' F' a' w' he hs' hsi'
          | true =>
            have hb := hd1 rfl
            simp only [Bool.and_eq_true] at hb
            have hord : Ordered ops rs := by
              refine ordered_of hst ?_
              rw [← g4]; exact hb.1
            exact draw_soundP hm hrun hall hord (ancB_ok hb.2) hs0 hsi step
      · cases draw with
        | false =>
          obtain ⟨s', hrun, hk⟩ := vcOpsD_run hT hZ.toOpAns hR
          obtain ⟨g2, g1, g3⟩ := hrun.facts
          refine wpIn_region_list (seqD_sound (fun _ => rfl) hrun (X := X1) (Y := Y) (w0 := w0) hs0 hsi fun env' F' a' w' he hs' hsi' => fin g2 g1 g3 env' F' a' w' hk he hs' hsi')
        | true =>
          obtain ⟨rs, s', hrun, hk⟩ := vcOps_run hT hZ.toOpAns hR
          obtain ⟨-, g1, -, g2, g3, -, -, -, -, -, g4⟩ := hrun.facts
          obtain ⟨fr2, H2, n2, sz2, df2, log2, b2⟩ := s'
          simp only [regQ] at hk
          split at hk
          · rename_i hr
            have hord : Ordered ops rs := by
              refine ordered_of hst ?_
              simp only [List.append_nil] at g4
              rw [← g4]; exact hr
            exact draw_sound hm hrun hord hs0 hsi fun env' F' a' w' he hs' hsi' => fin g2 g1 g3 env' F' a' w' hk he hs' hsi'
          · exact (hZ.bad hk).elim

end
end Go.SX

namespace Go.SX
noncomputable section

/-- A contract for a function that is called as a deferred one, in a frame of mode u, which becomes u'. -/
def CtrV (P : Program) (f : FuncId) (args : List AV) (R pre : Heap) (n n' : Nat) (u u' : FrameMode) (post : Heap) : Prop :=
  HasBody P f = true ∧ n ≤ n' ∧ domB pre post = true ∧ ∀ (env : Env) (F : Foot) (w : World) (xs : Array Value), Dens env args xs.toList → SatH env (pre ++ R) F w → (∀ h, n ≤ h → h < n' → env h = none) →
    CallsDIn (Wd none) 0 P f xs u w fun e u1 w' => u1 = u' ∧ ∃ env' F' x, e = .returned x ∧ Turn n n' R pre post env F w env' F' w'

/-- The way out of a function, in whatever mode. -/
inductive LeaveX (P : Program) (T : Tab) (rs : List ResultVar) (fr : Fr) (K : Out → Heap → Nat → Prop) : FrameMode → List Df → Heap → Nat → Prop
  | ret {H : Heap} {n : Nat} {l : List AV} (hl : resL T fr H rs = some l) (hk : K (.ret (outV l)) H n) : LeaveX P T rs fr K .returning [] H n
  | pan {H : Heap} {n : Nat} {x : Value} (hk : K (.pan x) H n) : LeaveX P T rs fr K (.panicking [{ v := x, recovered := false }]) [] H n
  | call {g : FuncId} {vs : List AV} {r : List Df} {H R pre post : Heap} {n n' : Nat} {u u' : FrameMode} (hu : u ≠ .run) (hc : CtrV P g vs R pre n n' u u' post) (hR : Sub R H) (hp : Sub pre H)
      (t : LeaveX P T rs fr K (settle u') r (post ++ H) n') : LeaveX P T rs fr K u (.call g vs :: r) H n

def OutD (env : Env) (o : Out) (e : Ending) : Prop := OutIs env o e

theorem leaveX_sound {P : Program} {T : Tab} (hT : TabOK P T) {fn : Func} {fr : Fr} {K : Out → Heap → Nat → Prop} {X Y : Nat → Prop} {w0 : World} {b : Nat} {tmps : Array Value} {u : FrameMode} {df : List Df} {H : Heap} {n : Nat} (h : LeaveX P T fn.results.toList fr K u df H n) :
    ∀ {env : Env} {F : Foot} {w : World} {ds : List Deferred}, DenD env df ds → (∀ t v, look fr t = some v → ∃ x, tmps[t]? = some x ∧ Den env v x) → SatH env H F w → (∀ h, n ≤ h → env h = none) → Since X Y w0 H F w → b ≤ n →
      LeavesInM (Wd none) 0 P fn tmps (fun e w' => ∃ o H' n' env' F', K o H' n' ∧ OutIs env' o e ∧ SatH env' H' F' w' ∧ Since X Y w0 H' F' w' ∧ (∀ h, h < b → env' h = env h)) ds u w := by
  induction h with
  | @ret H n l hl hk =>
    intro env F w ds hd hf hs hfr hsi hb
    simp only [DenD] at hd
    subst hd
    obtain ⟨x, hx, hxd⟩ := results_ok (P := P) (fn := fn) (a := { tmps := tmps, defers := [] }) hT hf hs hl
    exact ⟨x, hx, _, _, _, env, F, hk, ⟨x, rfl, hxd⟩, hs, hsi, fun _ _ => rfl⟩
  | @pan H n x hk =>
    intro env F w ds hd hf hs hfr hsi hb
    simp only [DenD] at hd
    subst hd
    exact ⟨_, _, _, env, F, hk, rfl, hs, hsi, fun _ _ => rfl⟩
  | @call g vs r H R pre post n n' u u' hu hc hR hp t ih =>
    intro env F w ds hd hf hs hfr hsi hb
    simp only [DenD] at hd
    obtain ⟨d, ds', rfl, ⟨cap, xs, rfl, hxs⟩, hd'⟩ := hd
    obtain ⟨hbody, hnn, hdom, spec⟩ := hc
    have hpart : SatH env (pre ++ R) F w := by
      refine hs.part ?_
      intro h x hl
      rw [look_append] at hl
      cases hq : look pre h with
      | some y => rw [hq] at hl; simp at hl; subst hl; exact hp _ _ hq
      | none => rw [hq] at hl; simp at hl; exact hR _ _ hl
    have hC := spec env F w (xs ++ cap) hxs hpart (fun h h1 _ => hfr h h1)
    refine ⟨hu, .inr ⟨wd_depth none, .func g, cap, g, xs ++ cap, rfl, ?_, fun _ _ => trivial, CallsDIn.mono hC ?_⟩⟩
    · simp only [invoke]; exact hasBody_run hbody _ _
    · rintro e u1 w' ⟨rfl, env', F', x, rfl, t2⟩
      obtain ⟨F'', q1, q2⟩ := turn_step t2 hs hsi hR hp (domB_ok hdom)
      have hfr' : ∀ h, n' ≤ h → env' h = none := fun h hh => by rw [t2.only h (by omega)]; exact hfr h (by omega)
      have := ih (hd'.mono t2.le) (fun t v hv => let ⟨x, h1, h2⟩ := hf t v hv; ⟨x, h1, Den.mono t2.le v h2⟩) q1 hfr' q2 (by omega)
      simp only
      refine LeavesInM_mono this ?_
      rintro e w'' ⟨o, H', n2, env2, F2, e2, e3, e4, e5, e6⟩
      exact ⟨o, H', n2, env2, F2, e2, e3, e4, e5, fun h hh => (e6 h hh).trans (t2.only h (by omega))⟩

def leaveXE (P : Program) (T : Tab) (rs : List ResultVar) (K : Out → Heap → Nat → Prop) (e : Exit) (s : St) : Prop :=
  match e with
  | .normal => LeaveX P T rs s.fr K .returning s.df s.H s.n
  | .ret => LeaveX P T rs s.fr K .returning s.df s.H s.n
  | .panic ch => LeaveX P T rs s.fr K (.panicking ch) s.df s.H s.n
  | _ => False

/-- What must hold at the end, whichever way it comes. -/
def FinX (n n' : Nat) (o : Out) (post : Heap) (o' : Out) (H : Heap) : Prop :=
  match o, o' with
  | .ret r, .ret v => Fin n n' r post v H
  | .pan x, .pan y => x = y ∧ Fin n n' (.raw x) post (.raw x) H
  | _, _ => False

theorem CtrE.intro_gen {P : Program} {T : Tab} (hT : TabOK P T) {f : FuncId} {fn : Func} {c : Code} {args : List AV} {R pre post : Heap} {n n' : Nat} {o : Out}
    (hf : P.funcs[f]? = some fn) (hb : fn.body = some c) (hst : (staticC c && (HasBody P f && Nat.ble n n')) = true) (hlen0 : Nat.ble args.length fn.ntmps = true) (hok : okL n args = true) (hokH : okH n (pre ++ R) = true) (hro : (roB R && domB pre post) = true)
    (h : Sem P none c (leaveXE P T fn.results.toList (fun v H _ => FinX n n' o post v H)) ⟨frOf 0 args, pre ++ R, n, fn.ntmps, [], [], n⟩) : CtrE P f args R pre n n' o post := by
  have hlen := Nat.le_of_ble_eq_true hlen0
  simp only [Bool.and_eq_true] at hst hro
  obtain ⟨hst, hbody, hnn⟩ := hst
  have hnn := Nat.le_of_ble_eq_true hnn
  obtain ⟨hro, hdom⟩ := hro
  refine ⟨hbody, hnn, hdom, ?_⟩
  intro env F w xs hargs hs hfresh
  obtain ⟨e1, e2⟩ := args_frame (nt := fn.ntmps) hargs hlen
  refine callsIn_wd.1 (callsIn_of_wp_marks (F := Wd none) (n := 0) hf hb trivial ?_)
  refine body_sem (args := args) (rh := none) (ro := none) (okF_frOf hok) hokH hro h trivial e1 rfl e2 hs ?_
  intro envI e s' env' F' a' w' hI hQ k1 k2 k3 k4 k5 k6
  have fin : ∀ u, LeaveX P T fn.results.toList s'.fr (fun v H _ => FinX n n' o post v H) u s'.df s'.H s'.n → LeavesInM (Wd none) 0 P fn a'.tmps (fun e w' => ∃ env' F', Turn n n' R pre post env F w env' F' w' ∧ OutIs env' o e) a'.defers u w' := by
    intro u hQ
    refine LeavesInM_mono (leaveX_sound (b := n) hT hQ k5.defers k5.val k5.heap k5.fresh k6 k3) ?_
    rintro e w'' ⟨o1, H', n2, env2, F2, g1, g2, g3, g4, g5⟩
    cases o with
    | ret r =>
      cases o1 with
      | ret v =>
        obtain ⟨x, rfl, hx⟩ := g2
        obtain ⟨env1, F1, q1, q2⟩ := fin_turn (show Fin n n' r post v H' from g1) hI hfresh hnn (fun h hh => (g5 h hh).trans (k4 h hh)) g3 g4 hx
        exact ⟨env1, F1, q1, x, rfl, q2⟩
      | pan x => exact g1.elim
    | pan y =>
      cases o1 with
      | ret v => exact g1.elim
      | pan x =>
        obtain ⟨rfl, g6⟩ := (show y = x ∧ Fin n n' (.raw y) post (.raw y) H' from g1)
        obtain ⟨env1, F1, q1, _⟩ := fin_turn (x := y) g6 hI hfresh hnn (fun h hh => (g5 h hh).trans (k4 h hh)) g3 g4 (by simp only [Den])
        exact ⟨env1, F1, q1, g2⟩
  cases e with
  | normal => exact fin _ hQ
  | ret => exact fin _ hQ
  | panic ch => exact fin _ hQ
  | _ => exact hQ.elim

/-- The computing end of a function. -/
def finO (n : Nat) (pre : Heap) (o : Out) (H : Heap) (n' : Nat) : Got (Out × Heap × Nat) :=
  match reach H far (match o with | .ret v => hsA v (keysOf pre) | .pan _ => keysOf pre) 0 [] with
  | none => .no .fuel
  | some acc => spine (filterR acc (keepB n)) fun post => .ok (o, post, n')

theorem finO_ok {n n0 n' : Nat} {pre post H : Heap} {o0 o : Out} (h : finO n pre o0 H n0 = .ok (o, post, n')) : o0 = o ∧ n0 = n' ∧ ∀ p ∈ post, look H p.1 = some p.2 := by
  unfold finO at h
  split at h
  · cases h
  · rename_i acc hacc
    rw [spine_eq] at h
    simp only [Got.ok.injEq, Prod.mk.injEq] at h
    obtain ⟨h1, h2, h3⟩ := h
    refine ⟨h1, h3, ?_⟩
    intro p hp
    rw [← h2, filterR_eq, List.mem_filter] at hp
    exact reach_mem (by simp) hacc p hp.1

def okO (n : Nat) : Out → Bool
  | .ret v => okA n v
  | .pan _ => true

def outO (n : Nat) (pre : Heap) (r : Got (Out × Heap × Nat)) : Got (Out × Heap × Nat) :=
  match r with
  | .no w => .no w
  | .ok (o, post, n') => match Nat.ble n n' && (domM pre (keysM post 0) && (okH n' post && okO n' o)) with
    | true => .ok (o, post, n')
    | false => .no (.exit n pre (match o with | .ret v => v | .pan x => .raw x) post n')

theorem outO_ok {n : Nat} {pre : Heap} {r : Got (Out × Heap × Nat)} {o : Out} {post : Heap} {n' : Nat} (h : outO n pre r = .ok (o, post, n')) : r = .ok (o, post, n') ∧ n ≤ n' ∧ domB pre post = true ∧ okH n' post = true ∧ okO n' o = true := by
  unfold outO at h
  split at h
  · cases h
  · rename_i v1 post1 n1
    split at h
    · rename_i hc
      simp only [Got.ok.injEq, Prod.mk.injEq] at h
      obtain ⟨rfl, rfl, rfl⟩ := h
      simp only [Bool.and_eq_true] at hc
      obtain ⟨c1, c2, c3, c4⟩ := hc
      exact ⟨rfl, Nat.le_of_ble_eq_true c1, domM_ok c2, c3, c4⟩
    · cases h

abbrev CallV := FuncId → List AV → Heap → Heap → Nat → FrameMode → Got (FrameMode × Heap × Nat)
def CallVOK (P : Program) (C : CallV) : Prop := ∀ {g vs pre R n u u' post n'}, C g vs pre R n u = .ok (u', post, n') → CtrV P g vs R pre n n' u u' post

/-- The way out, computed. -/
def leaveG (V : CallV) (T : Tab) (rs : List ResultVar) (n0 : Nat) (pre : Heap) (fr : Fr) : List Df → FrameMode → Heap → Nat → Got (Out × Heap × Nat)
  | [], u, H, n => match u with
    | .returning => match resL T fr H rs with
      | some l => force (base (Out × Heap × Nat)) (outV l) fun v => finO n0 pre (.ret v) H n
      | none => .no .bad
    | .panicking [⟨x, false, false⟩] => finO n0 pre (.pan x) H n
    | _ => .no .bad
  | .call g vs :: r, u, H, n => match u with
    | .run => .no .bad
    | u => match reach H far (hsL vs []) 0 [] with
      | none => .no .fuel
      | some acc => match V g vs (filterR acc exB) (filterR acc roP) n u with
        | .no w => .no (.call g w)
        | .ok (u', post, n') => appK post H fun H' => leaveG V T rs n0 pre fr r (settle u') H' n'
  | .mark _ :: _, _, _, _ => .no .bad

theorem leaveG_ok {P : Program} {T : Tab} {V : CallV} (hV : CallVOK P V) {rs : List ResultVar} {n0 : Nat} {pre : Heap} {fr : Fr} {o1 : Out} {post1 : Heap} {n1 : Nat} : ∀ {df : List Df} {u : FrameMode} {H : Heap} {n : Nat}, leaveG V T rs n0 pre fr df u H n = .ok (o1, post1, n1) →
    LeaveX P T rs fr (fun o H _ => o = o1 ∧ ∀ p ∈ post1, look H p.1 = some p.2) u df H n
  | [], u, H, n, h => by
    unfold leaveG at h
    split at h
    · split at h
      · rename_i l hl
        rw [force_eq] at h
        obtain ⟨e1, e2, e3⟩ := finO_ok h
        exact .ret hl ⟨e1, e3⟩
      · cases h
    · obtain ⟨e1, e2, e3⟩ := finO_ok h
      exact .pan ⟨e1, e3⟩
    · cases h
  | .call g vs :: r, u, H, n, h => by
    unfold leaveG at h
    split at h
    · cases h
    · rename_i hu
      split at h
      · cases h
      · rename_i acc hacc
        have hmem := reach_mem (by simp) hacc
        split at h
        · cases h
        · rename_i u' post n' hc
          rw [appK_eq] at h
          exact .call hu (hV hc) (sub_filter hmem _) (sub_filter hmem _) (leaveG_ok hV h)
  | .mark _ :: _, _, _, _, h => by cases h

theorem LeaveX.mono {P : Program} {T : Tab} {rs : List ResultVar} {fr : Fr} {K K' : Out → Heap → Nat → Prop} {u : FrameMode} {df : List Df} {H : Heap} {n : Nat} (h : LeaveX P T rs fr K u df H n) (hk : ∀ v H n, K v H n → K' v H n) : LeaveX P T rs fr K' u df H n := by
  induction h with
  | ret hl h => exact .ret hl (hk _ _ _ h)
  | pan h => exact .pan (hk _ _ _ h)
  | call hu hc hR hp _ ih => exact .call hu hc hR hp ih

def endG (V : CallV) (T : Tab) (rs : List ResultVar) (n0 : Nat) (pre : Heap) (e : Exit) (s : St) : Got (Out × Heap × Nat) :=
  match e with
  | .normal => leaveG V T rs n0 pre s.fr s.df .returning s.H s.n
  | .ret => leaveG V T rs n0 pre s.fr s.df .returning s.H s.n
  | .panic ch => leaveG V T rs n0 pre s.fr s.df (.panicking ch) s.H s.n
  | _ => .no .bad

/-- A function whose calls may panic, entered. -/
def evX (T : Tab) (fns : FuncId → Option FRow) (pu : Pure) (E : Hs) (V : CallV) (X : List Nat) (C : CallX) : CallX := fun g vs pre R n =>
  match fns g with
  | none => .no (.noFn g)
  | some ⟨nt, rs, c⟩ => appK pre R fun H => match okL n vs && (okH n H && (roB R && Nat.ble (lenR vs) nt)) with
    | false => .no (.entry vs H)
    | true => outO n pre (frK (base (Out × Heap × Nat)) 0 vs fun fr => codeX T E pu C X c (endG V T rs n pre) ⟨fr, H, n, nt, [], [], n⟩)

theorem evX_ok {P : Program} {T : Tab} (hT : TabOK P T) (hm : P.follows .mixedOrders = true) {fns : FuncId → Option FRow} (hf : ∀ {g r}, fns g = some r → FunOK P g r) {pu : Pure} (hp : PureOK P pu) {E : Hs} (hE : HsOK P E)
    {V : CallV} (hV : CallVOK P V) {X : List Nat} {C : CallX} (hC : CallXOK P C) : CallXOK P (evX T fns pu E V X C) := by
  intro g vs pre R n o post n' h
  unfold evX at h
  split at h
  · cases h
  · rename_i nt rs c hfn
    rw [appK_eq] at h
    split at h
    · cases h
    · rename_i hb
      simp only [Bool.and_eq_true] at hb
      obtain ⟨b1, b2, b3, b4⟩ := hb
      obtain ⟨fn, f1, f2, f3, f4, f5, f6⟩ := hf hfn
      simp only at f2 f3 f4 f6
      obtain ⟨hr, c1, c2, c3, c4⟩ := outO_ok h
      rw [frK_eq] at hr
      have hsem := codeX_sound hT hm hE hp hC (X := X) (o, post, n') c hr f6
      refine CtrE.intro_gen hT f1 f4 (by rw [f6, f5, Nat.ble_eq_true_of_le c1]; rfl) (by rw [f2]; exact (lenR_eq vs ▸ b4)) b1 b2 (by rw [b3, c2]; rfl) ?_
      rw [f2, f3]
      refine hsem.mono ?_
      have fin : ∀ (u : FrameMode) (s : St), leaveG V T rs n pre s.fr s.df u s.H s.n = .ok (o, post, n') → LeaveX P T rs s.fr (fun v1 H _ => FinX n n' o post v1 H) u s.df s.H s.n := by
        intro u s hq
        refine (leaveG_ok hV hq).mono ?_
        rintro v1 H _ ⟨rfl, e3⟩
        cases v1 with
        | ret v => exact Fin.same c3 c4 e3
        | pan x => exact ⟨rfl, Fin.same c3 rfl e3⟩
      intro e s hq
      cases e with
      | normal => exact fin _ s hq
      | ret => exact fin _ s hq
      | panic ch => exact fin _ s hq
      | _ => cases hq

end
end Go.SX

namespace Go.SX
noncomputable section

/-- A panic's value, as a walk knows it. -/
def avOf : Value → Option AV
  | .iface t (.int k n) => some (.iface t (.int k n))
  | .iface t (.string s) => some (.iface t (.str s))
  | .iface t (.agg xs) => match xs.toList with
    | [.int k n] => some (.iface t (.agg [.int k n]))
    | _ => none
  | _ => none

theorem avOf_den {x : Value} {v : AV} (h : avOf x = some v) (env : Env) : Den env v x ∧ ∀ n, okA n v = true := by
  unfold avOf at h
  split at h
  · cases h; simp only [Den]; exact ⟨⟨_, rfl, rfl⟩, fun n => rfl⟩
  · cases h; simp only [Den]; exact ⟨⟨_, rfl, rfl⟩, fun n => rfl⟩
  · rename_i t xs
    split at h
    · rename_i k n hl
      cases h
      simp only [Den, Dens]
      exact ⟨⟨_, rfl, xs, rfl, _, _, hl, rfl, rfl⟩, fun n => rfl⟩
    · cases h
  · cases h

/-- 'recover' into a slot. -/
def recO (o : Oper) : Option Nat :=
  match o.op, o.guard, o.dst with
  | .call { callee := .builtin .recover, args := xs, argTypes := _ }, none, some d => match xs.toList with
    | [] => some d
    | _ => none
  | _, _, _ => none

/-- What it gives in a frame of a mode, and what becomes of that. -/
def recV (u : FrameMode) : Option (AV × FrameMode) :=
  match u with
  | .returning => some (.nili, .returning)
  | .panicking [⟨x, false, false⟩] => match avOf x with
    | some v => some (v, .panicking [⟨x, true, false⟩])
    | none => none
  | _ => none

def endV (T : Tab) (rs : List ResultVar) (n0 : Nat) (pre : Heap) (u : FrameMode) (e : Exit) (s : St) : Got (FrameMode × Heap × Nat) :=
  match e, s.df, resL T s.fr s.H rs with
  | .normal, [], some _ => match finO n0 pre (.pan undef) s.H s.n with
    | .no w => .no w
    | .ok (_, post, n') => .ok (u, post, n')
  | .ret, [], some _ => match finO n0 pre (.pan undef) s.H s.n with
    | .no w => .no w
    | .ok (_, post, n') => .ok (u, post, n')
  | _, _, _ => .no .bad

def outW (n : Nat) (pre : Heap) (r : Got (FrameMode × Heap × Nat)) : Got (FrameMode × Heap × Nat) :=
  match r with
  | .no w => .no w
  | .ok (u, post, n') => match Nat.ble n n' && (domM pre (keysM post 0) && okH n' post) with
    | true => .ok (u, post, n')
    | false => .no (.exit n pre .nili post n')

theorem outW_ok {n : Nat} {pre : Heap} {r : Got (FrameMode × Heap × Nat)} {u : FrameMode} {post : Heap} {n' : Nat} (h : outW n pre r = .ok (u, post, n')) : r = .ok (u, post, n') ∧ n ≤ n' ∧ domB pre post = true ∧ okH n' post = true := by
  unfold outW at h
  split at h
  · cases h
  · rename_i v1 post1 n1
    split at h
    · rename_i hc
      simp only [Got.ok.injEq, Prod.mk.injEq] at h
      obtain ⟨rfl, rfl, rfl⟩ := h
      simp only [Bool.and_eq_true] at hc
      obtain ⟨c1, c2, c3⟩ := hc
      exact ⟨rfl, Nat.le_of_ble_eq_true c1, domM_ok c2, c3⟩
    · cases h

/-- The first operation recovers; the rest is plain. -/
def recC (c : Code) : Option (Nat × Code) :=
  match c with
  | .seq (.region _ ops false) rest => match ops.toList with
    | [o] => match recO o with
      | some d => some (d, rest)
      | none => none
    | _ => none
  | _ => none

/-- A deferred function that recovers, entered in a frame of mode u. -/
def evV (T : Tab) (fns : FuncId → Option FRow) (pu : Pure) (E : Hs) (C : CallX) : CallV := fun g vs pre R n u =>
  match fns g with
  | none => .no (.noFn g)
  | some ⟨nt, rs, c⟩ => match recC c, recV u with
    | some (d, rest), some (v, u') => appK pre R fun H => match okL n vs && (okH n H && (roB R && (Nat.ble (lenR vs) nt && Nat.blt d nt))) with
      | false => .no (.entry vs H)
      | true => outW n pre (frK (base (FrameMode × Heap × Nat)) 0 vs fun fr => codeX T E pu C [] rest (endV T rs n pre u') ⟨(d, v) :: fr, H, n, nt, [], [], n⟩)
    | _, _ => .no .bad

theorem evV_ok {P : Program} {T : Tab} (hT : TabOK P T) (hm : P.follows .mixedOrders = true) {fns : FuncId → Option FRow} (hf : ∀ {g r}, fns g = some r → FunOK P g r) {pu : Pure} (hp : PureOK P pu) {E : Hs} (hE : HsOK P E) {C : CallX} (hC : CallXOK P C) : CallVOK P (evV T fns pu E C) := by
  intro g vs pre R n u u1 post n' h
  unfold evV at h
  split at h
  · cases h
  · rename_i nt rs c hfn
    split at h
    · rename_i d rest v u' hrc hrv
      rw [appK_eq] at h
      split at h
      · cases h
      · rename_i hb
        simp only [Bool.and_eq_true] at hb
        obtain ⟨b1, b2, b3, b4, b5⟩ := hb
        have b5 : d < nt := Nat.le_of_ble_eq_true b5
        obtain ⟨fn, f1, f2, f3, f4, f5, f6⟩ := hf hfn
        simp only at f2 f3 f4 f6
        obtain ⟨hr, c1, c2, c3⟩ := outW_ok h
        rw [frK_eq] at hr
        -- the code's make
        unfold recC at hrc
        split at hrc
        · rename_i id ops rest0
          split at hrc
          · rename_i o hops
            split at hrc
            · rename_i d0 ho
              simp only [Option.some.injEq, Prod.mk.injEq] at hrc
              obtain ⟨rfl, rfl⟩ := hrc
              simp only [staticC, Bool.and_eq_true] at f6
              have hsem := codeX_sound hT hm hE hp hC (X := []) (u1, post, n') rest0 hr f6.2
              have hops' : ops = #[o] := one_list hops
              subst hops'
              -- what recover finds
              have hrec : u ≠ .run ∧ (∀ (env : Env), ∃ x, Den env v x ∧ ∀ (c0 : Frame) (cs : List Frame), c0.mode = u → (match recoverD (c0 :: cs) with
                  | some (y, cs') => y = x ∧ cs' = { c0 with mode := u' } :: cs
                  | none => x = .nilIface ∧ u' = u)) ∧ (∀ k, okA k v = true) := by
                unfold recV at hrv
                split at hrv
                · simp only [Option.some.injEq, Prod.mk.injEq] at hrv
                  obtain ⟨rfl, rfl⟩ := hrv
                  refine ⟨by simp, fun env => ⟨.nilIface, by simp only [Den], fun c0 cs hc => ?_⟩, fun k => rfl⟩
                  simp only [recoverD, hc]
                  exact ⟨trivial, trivial⟩
                · rename_i x
                  split at hrv
                  · rename_i v0 hv0
                    simp only [Option.some.injEq, Prod.mk.injEq] at hrv
                    obtain ⟨rfl, rfl⟩ := hrv
                    refine ⟨by simp, fun env => ⟨x, (avOf_den hv0 env).1, fun c0 cs hc => ?_⟩, (avOf_den hv0 (fun _ => none)).2⟩
                    simp only [recoverD, hc]
                    exact ⟨trivial, trivial⟩
                  · cases hrv
                · cases hrv
              obtain ⟨hrun, hrec, hvok⟩ := hrec
              refine ⟨f5, c1, c2, ?_⟩
              intro env F w xs hargs hs hfresh
              have hlen : vs.length ≤ nt := Nat.le_of_ble_eq_true (lenR_eq vs ▸ b4)
              obtain ⟨e1, e2⟩ := args_frame (nt := nt) hargs hlen
              refine callsDIn_of_wpSIn (F := Wd none) (n := 0) f1 f4 trivial ?_
              intro c0 cs hc0
              rw [f2]
              -- the operation
              unfold recO at ho
              split at ho
              · rename_i xs0 ts0 d1 hop hgd hdst
                split at ho
                · rename_i hxs
                  cases ho
                  obtain ⟨x, hx, hrc0⟩ := hrec env
                  refine wpSIn_seq (wpSIn_region ?_)
                  have hex : ∀ a : Act, (execOp a.eval o).run P w = .ok .recover w := by
                    intro a
                    have : xs0 = #[] := by apply Array.ext'; simpa using hxs
                    subst this
                    simp only [execOp, hop]
                    rfl
                  have hlist : List.range (#[o] : Array Oper).size = [0] := rfl
                  rw [hlist]
                  have hg0 : (#[o] : Array Oper)[0]? = some o := rfl
                  simp only [wpOpsSIn, hg0]
                  refine ⟨fun _ _ => trivial, ?_⟩
                  have hw : ∀ t : Array Value, Region.wanted o (yielded #[o] t) = true := by intro t; unfold Region.wanted; rw [hgd]
                  rw [if_pos (hw _), hex]
                  have fin : ∀ cs', cs' = { c0 with mode := u' } :: cs → rest0.wpSIn (Wd none) 0 P (bodyPostS P fn c0 cs fun e u2 w' => u2 = u1 ∧ ∃ env' F' x, e = .returned x ∧ Turn n n' R pre post env F w env' F' w')
                      (({ tmps := xs ++ Array.replicate (nt - xs.size) undef, defers := [] } : Act).put o.dst x) cs' w := by
                    rintro cs' rfl
                    refine wpSIn_of_wpIn rfl ?_
                    rw [hdst]
                    refine body_sem (args := vs) (rh := none) (ro := none) (fr := (d0, v) :: frOf 0 vs) (by simp only [okF, Bool.and_eq_true]; exact ⟨hvok n, okF_frOf b1⟩) b2 b3 hsem trivial (by simp [Act.put, e1]) rfl ?_ hs ?_
                    · intro t y hl
                      rw [look_cons] at hl
                      split at hl
                      · rename_i et
                        subst et; cases hl
                        refine ⟨x, ?_, hx⟩
                        have e1' : (xs ++ Array.replicate (nt - xs.size) undef).size = nt := e1
                        simp only [Act.put]
                        rw [Array.getElem?_setIfInBounds_self_of_lt (by rw [e1']; exact b5)]
                      · rename_i et
                        obtain ⟨z, hz, hdz⟩ := e2 t y hl
                        refine ⟨z, ?_, hdz⟩
                        simp only [Act.put]
                        rw [Array.getElem?_setIfInBounds_ne et]; exact hz
                    · intro envI e s' env' F' a' w' hI hQ k1 k2 k3 k4 k5 k6
                      have fin2 : s'.df = [] → (∃ l, resL T s'.fr s'.H rs = some l) → (∀ {o1 : Out}, finO n pre (.pan undef) s'.H s'.n = .ok (o1, post, n') → u' = u1 → a'.defers = [] ∧ ∃ u2, ({ c0 with mode := u' } : Frame) :: cs = { c0 with mode := u2 } :: cs ∧ ∃ v, (results fn a'.tmps).run P w' = .ok v w' ∧
                          (u2 = u1 ∧ ∃ env1 F1 x, Ending.returned v = .returned x ∧ Turn n n' R pre post env F w env1 F1 w')) := by
                        rintro hdf ⟨l, hl⟩ o1 hfo rfl
                        obtain ⟨q1, q2, q3⟩ := finO_ok hfo
                        rw [← f3] at hl
                        obtain ⟨y, hy, hyd⟩ := results_ok (P := P) (fn := fn) hT k5.val k5.heap hl
                        have hfin : Fin n n' (.raw undef) post (.raw undef) s'.H := Fin.same c3 rfl q3
                        obtain ⟨env1, F1, t1, _⟩ := fin_turn (x := undef) hfin hI hfresh c1 k4 k5.heap k6 (by simp only [Den])
                        have hds := k5.defers
                        rw [hdf] at hds
                        exact ⟨hds, u', rfl, y, hy, rfl, env1, F1, y, rfl, t1⟩
                      unfold endV at hQ
                      split at hQ
                      · rename_i l hdf hl
                        split at hQ
                        · cases hQ
                        · rename_i o1 p1 n1 hfo
                          simp only [Got.ok.injEq, Prod.mk.injEq] at hQ
                          obtain ⟨q1, rfl, rfl⟩ := hQ
                          exact fin2 hdf ⟨_, hl⟩ hfo q1
                      · rename_i l hdf hl
                        split at hQ
                        · cases hQ
                        · rename_i o1 p1 n1 hfo
                          simp only [Got.ok.injEq, Prod.mk.injEq] at hQ
                          obtain ⟨q1, rfl, rfl⟩ := hQ
                          exact fin2 hdf ⟨_, hl⟩ hfo q1
                      · cases hQ
                  have h0 := hrc0 c0 cs hc0
                  split at h0
                  · rename_i y cs' hrd
                    obtain ⟨rfl, hcs'⟩ := h0
                    simp only [hrd]
                    exact fin cs' hcs'
                  · rename_i hrd
                    obtain ⟨rfl, rfl⟩ := h0
                    simp only [hrd]
                    exact fin _ (by rw [← hc0])
                · cases ho
              · cases ho
            · cases hrc
          · cases hrc
        · cases hrc
    · cases h

def noX : CallX := fun g _ _ _ _ => .no (.noFn g)
theorem noX_ok (P : Program) : CallXOK P noX := fun h => by cases h

/-- Functions that may panic, so deep. -/
def evXs (T : Tab) (fns : FuncId → Option FRow) (pu : Pure) (E : Hs) (X : List Nat) (k : Nat) : CallX := Nat.rec (motive := fun _ => CallX) noX (fun _ C => evX T fns pu E (evV T fns pu E noX) X C) k

theorem evXs_ok {P : Program} {T : Tab} (hT : TabOK P T) (hm : P.follows .mixedOrders = true) {fns : FuncId → Option FRow} (hf : ∀ {g r}, fns g = some r → FunOK P g r) {pu : Pure} (hp : PureOK P pu) {E : Hs} (hE : HsOK P E) {X : List Nat} : ∀ k, CallXOK P (evXs T fns pu E X k)
  | 0 => noX_ok P
  | k + 1 => evX_ok hT hm hf hp hE (evV_ok hT hm hf hp hE (noX_ok P)) (evXs_ok hT hm hf hp hE k)

/-- A function that recovers from the panics of those that it calls (X), as an override. -/
def panOv (T : Tab) (fns : FuncId → Option FRow) (pu : Pure) (ov : Ov) (f : Nat) (X : List Nat) (d k : Nat) : Ov := fun g vs pre R n => match Nat.beq g f with
  | false => none
  | true => match evXs T fns pu (evAll T fns pu ov k) X d g vs pre R n with
    | .ok (.ret v, post, n') => some (v, post, n')
    | _ => none

theorem panOv_ok {P : Program} {T : Tab} (hT : TabOK P T) (hm : P.follows .mixedOrders = true) {fns : FuncId → Option FRow} (hf : ∀ {g r}, fns g = some r → FunOK P g r) {pu : Pure} (hp : PureOK P pu) {ov : Ov} (ho : OvOK P ov) {f : Nat} {X : List Nat} {d k : Nat} : OvOK P (panOv T fns pu ov f X d k) := by
  intro g vs pre R n v post n' h
  unfold panOv at h
  split at h
  · cases h
  · split at h
    · rename_i hr
      cases h
      exact (evXs_ok hT hm hf hp (evAll_ok hT hm hf hp ho k) d hr).ctr
    · cases h

end
end Go.SX

-- MERGED
